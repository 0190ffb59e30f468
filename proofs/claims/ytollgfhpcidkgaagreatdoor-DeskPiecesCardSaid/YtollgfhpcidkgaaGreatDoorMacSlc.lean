import Derived.Test.YtollgfhpcidkgaaGreatDoorMacOps
import Derived.Laws.MakeOwn
import Derived.Laws.Slices
import Derived.Laws.Strings

namespace Go.Mac
open Go

section

variable {B R:Nat→Prop} {w0:World} {N:Nat} {L:Nat→Loc} {H:List PO} {P:Program} {w:World} {K:AV→Prop}

theorem elemT_spec {t e:TypeId} (h:elemT P t=some e):P.underlying t=some (.slice e):=by
 unfold elemT at h
 split at h <;> simp at h
 subst h;assumption

theorem arrT_spec {t e:TypeId} {n:Nat} (h:arrT P t=some (n,e)):P.underlying t=some (.array n e):=by
 unfold arrT at h
 split at h <;> simp at h
 obtain ⟨rfl,rfl⟩:=h;assumption

theorem rowsSz_spec {e:TypeId} {sz:Nat} {k:Prop} (h:rowsSz P e sz k):(P.info? e).isSome=true∧sz=szOf P e∧k:=by
 simp only [rowsSz,cond_eq_ite] at h
 split at h <;> try exact h.elim
 split at h <;> try exact h.elim
 rename_i h1 h2
 exact ⟨h1,Nat.eq_of_beq_eq_true h2,h⟩

theorem Hdr.pos {h:ILoc} {o n:Nat} {c:Option Nat} {nn:Bool} {v:Value} (hh:Hdr h o n c nn v) (hn:0<n):∃ k,v=.slice (some (h.at o 0)) n k∧n≤k∧o+k≤h.cap∧(c=none→o+k=h.cap):=by
 rcases hh with ⟨_,h0,_⟩ | ⟨a,k,h1,h2,h3,h4,h5,h6⟩
 · omega
 · have:=h6 (by omega)
   subst this
   exact ⟨k,h1,h2,h4,h5⟩

theorem run_indexAt {t e:TypeId} (ht:elemT P t=some e) (hi:(P.info? e).isSome=true) {a:Addr} {n k:Nat} {kd:IntKind} {j:Int} (h0:0≤j) (h1:j<n) :
 (Instr.indexAt t (.slice (some a) n k) (.int kd j)).run P w=.ok (.pointer (some (a.add (j.toNat*szOf P e)))) w:=by
 have:=run_indexAt_slice (P:=P) w t a n k kd j (by
  have:=elemT_spec ht
  simp [Program.elem,this])
 rw [this,if_pos ⟨h0,h1⟩]
 have he:P.elem t=e:=by simp [Program.elem,elemT_spec ht]
 rw [he,run_sizeOf_some hi]
 rfl

theorem indexAddr_sound (h:Rel B R w0 L H w) {t:TypeId} {p q:AV} {v u:Value} (hp:VA H.length L p v) (hq:VA H.length L q u) (hs:indexAddrA P H t p q K) :
 ∃ r s,(Instr.indexAt t v u).run P w=.ok s w∧VA H.length L r s∧K r:=by
 unfold indexAddrA at hs
 split at hs <;> try exact hs.elim
 rename_i kd j
 obtain rfl:=hq
 split at hs
 · rename_i e he
   split at hs <;> try exact hs.elim
   · rename_i r o n c nn
     obtain ⟨hr,hh⟩:=hp
     rw [nth_eq] at hs
     split at hs <;> try exact hs.elim
     · rename_i ro sz rs hrs
       obtain ⟨hi,hsz,h0,h1,hK⟩:=rowsSz_spec hs
       obtain ⟨osz,_⟩:=h.obj r _ hrs
       obtain ⟨k,rfl,_⟩:=hh.pos (by omega)
       refine ⟨_,_,run_indexAt he hi h0 h1,?_,hK⟩
       refine ⟨hr,?_⟩
       rw [Addr.add_none _ _ rfl]
       simp [ILoc.at,osz,←hsz,Nat.add_mul,Nat.add_assoc]
     · rename_i ro sz rs hrs
       obtain ⟨hi,hsz,h0,h1,hK⟩:=rowsSz_spec hs
       obtain ⟨osz,_⟩:=h.obj r _ hrs
       obtain ⟨k,rfl,_⟩:=hh.pos (by omega)
       refine ⟨_,_,run_indexAt he hi h0 h1,?_,hK⟩
       refine ⟨hr,?_⟩
       rw [Addr.add_none _ _ rfl]
       simp [ILoc.at,osz,←hsz,Nat.add_assoc]
     · rename_i sz es hrs
       obtain ⟨hi,hsz,h0,h1,hK⟩:=rowsSz_spec hs
       obtain ⟨osz,_⟩:=h.obj r _ hrs
       obtain ⟨k,rfl,_⟩:=hh.pos (by omega)
       refine ⟨_,_,run_indexAt he hi h0 h1,?_,hK⟩
       refine ⟨hr,?_⟩
       rw [Addr.add_none _ _ rfl]
       simp [ILoc.at,osz,←hsz,Nat.add_assoc]
   · rename_i r i o n c nn
     obtain ⟨hr,hh⟩:=hp
     rw [nth_eq] at hs
     split at hs <;> try exact hs.elim
     rename_i ro sz rss hrs
     obtain ⟨hi,hsz,hil,h0,h1,hK⟩:=rowsSz_spec hs
     obtain ⟨_,_,_,hc,_⟩:=h.obj r _ hrs
     obtain ⟨⟨osz,_⟩,_⟩:=hc i rss[i] (by simp [hil])
     obtain ⟨k,rfl,_⟩:=hh.pos (by omega)
     refine ⟨_,_,run_indexAt he hi h0 h1,?_,hK⟩
     refine ⟨hr,?_⟩
     rw [Addr.add_none _ _ rfl]
     simp [ILoc.at,osz,←hsz,Nat.add_mul,Nat.add_assoc]
 · split at hs <;> try exact hs.elim
   rename_i n e he
   simp only [cond_eq_ite] at hs
   split at hs <;> try exact hs.elim
   rename_i hi
   have hrun:∀ ad:Addr,0≤j→j<n→(Instr.indexAt t (.pointer (some ad)) (.int kd j)).run P w=.ok (.pointer (some (ad.add (j.toNat*szOf P e)))) w:=fun ad h0 h1=>by
    simp only [Instr.indexAt,asIntOf,Sem.run_bind,Sem.run_pure,Result.andThen_ok,run_underlying_some (arrT_spec he),Instr.sureAddr]
    rw [Sem.run_ite,if_pos ⟨h0,h1⟩]
    simp [run_sizeOf_some hi]
   split at hs <;> try exact hs.elim
   all_goals obtain ⟨h0,h1,hK⟩:=hs
   rotate_left 2
   · obtain rfl:=hp
     refine ⟨_,_,hrun _ h0 h1,?_,hK⟩
     exact congrArg (fun x=>Value.pointer (some x)) (Addr.add_none _ _ rfl)
   all_goals
    obtain ⟨hr,rfl⟩:=hp
    refine ⟨_,_,hrun _ h0 h1,?_,hK⟩
    refine ⟨hr,?_⟩
    rw [Addr.add_none _ _ rfl]
    simp [ILoc.at,Nat.add_assoc]

theorem bounds_sound {n:Nat} {lo hi:Option AV} {vlo vhi:Option Value} (hlo:(lo=none∧vlo=none)∨∃ x v,lo=some x∧vlo=some v∧VA N L x v) (hhi:(hi=none∧vhi=none)∨∃ x v,hi=some x∧vhi=some v∧VA N L x v)
 {k:Nat→Nat→Prop} (h:boundsA n lo hi k):∃ l m,l≤m∧m≤n∧(∀ cap b,n≤cap→(Instr.sliceBounds b n cap vlo vhi none).run P w=.ok (l,m,cap) w)∧k l m:=by
 unfold boundsA at h
 split at h <;> try exact h.elim
 · rcases hlo with ⟨_,rfl⟩ | ⟨x,v,hx,_⟩ <;> try cases hx
   rcases hhi with ⟨_,rfl⟩ | ⟨x,v,hx,_⟩ <;> try cases hx
   exact ⟨0,n,Nat.zero_le _,Nat.le_refl _,fun cap b _=>by simp [Instr.sliceBounds],h⟩
 · rcases hlo with ⟨hx,_⟩ | ⟨x,v,hx,rfl,hv⟩ <;> cases hx
   rcases hhi with ⟨_,rfl⟩ | ⟨x,v,hx,_⟩ <;> try cases hx
   obtain rfl:=hv
   obtain ⟨h0,h1,hk⟩:=h
   exact ⟨_,n,by omega,Nat.le_refl _,fun cap b _=>by simp [Instr.sliceBounds,FC.val,run_sliceBound,h0,h1],hk⟩
 · rcases hlo with ⟨_,rfl⟩ | ⟨x,v,hx,_⟩ <;> try cases hx
   rcases hhi with ⟨hx,_⟩ | ⟨x,v,hx,rfl,hv⟩ <;> cases hx
   obtain rfl:=hv
   obtain ⟨h0,h1,hk⟩:=h
   rename_i hh _
   refine ⟨0,_,Nat.zero_le _,by omega,fun cap b hc=>?_,hk⟩
   have h2:hh≤(cap:Int):=by omega
   simp [Instr.sliceBounds,FC.val,run_sliceBound,h0,h2]
 · rcases hlo with ⟨hx,_⟩ | ⟨x,v,hx,rfl,hv⟩ <;> cases hx
   rcases hhi with ⟨hx,_⟩ | ⟨x,v,hx,rfl,hv'⟩ <;> cases hx
   obtain rfl:=hv
   obtain rfl:=hv'
   obtain ⟨h0,h1,h2,hk⟩:=h
   rename_i l _ hh
   refine ⟨_,_,by omega,by omega,fun cap b hc=>?_,hk⟩
   have h3:hh≤(cap:Int):=by omega
   have h4:0≤hh:=by omega
   have h5:l≤(hh.toNat:Int):=by omega
   simp only [Instr.sliceBounds,FC.val,Sem.run_bind,Sem.run_pure,Result.andThen_ok]
   rw [run_sliceBound (h0:=h4) (h1:=h3)]
   simp only [Result.andThen_ok]
   rw [run_sliceBound (h0:=h0) (h1:=h5)]
   rfl

theorem boundsUp_sound {n m:Nat} {lo hi:Option AV} {vlo vhi:Option Value} (hlo:(lo=none∧vlo=none)∨∃ x v,lo=some x∧vlo=some v∧VA N L x v) (hhi:(hi=none∧vhi=none)∨∃ x v,hi=some x∧vhi=some v∧VA N L x v)
 {k:Nat→Nat→Prop} (h:boundsUpA m lo hi k):∃ l u,l≤u∧u≤m∧(∀ cap b,m≤cap→(Instr.sliceBounds b n cap vlo vhi none).run P w=.ok (l,u,cap) w)∧k l u:=by
 unfold boundsUpA at h
 split at h <;> try exact h.elim
 · rcases hlo with ⟨_,rfl⟩ | ⟨x,v,hx,_⟩ <;> try cases hx
   rcases hhi with ⟨hx,_⟩ | ⟨x,v,hx,rfl,hv⟩ <;> cases hx
   obtain rfl:=hv
   obtain ⟨h0,h1,hk⟩:=h
   rename_i hh _
   refine ⟨0,_,Nat.zero_le _,by omega,fun cap b hc=>?_,hk⟩
   have h2:hh≤(cap:Int):=by omega
   simp [Instr.sliceBounds,FC.val,run_sliceBound,h0,h2]
 · rcases hlo with ⟨hx,_⟩ | ⟨x,v,hx,rfl,hv⟩ <;> cases hx
   rcases hhi with ⟨hx,_⟩ | ⟨x,v,hx,rfl,hv'⟩ <;> cases hx
   obtain rfl:=hv
   obtain rfl:=hv'
   obtain ⟨h0,h1,h2,hk⟩:=h
   rename_i l _ hh
   refine ⟨_,_,by omega,by omega,fun cap b hc=>?_,hk⟩
   have h3:hh≤(cap:Int):=by omega
   have h4:0≤hh:=by omega
   have h5:l≤(hh.toNat:Int):=by omega
   simp only [Instr.sliceBounds,FC.val,Sem.run_bind,Sem.run_pure,Result.andThen_ok]
   rw [run_sliceBound (h0:=h4) (h1:=h3)]
   simp only [Result.andThen_ok]
   rw [run_sliceBound (h0:=h0) (h1:=h5)]
   rfl

theorem Hdr.part {h:ILoc} {o n:Nat} {c:Option Nat} {nn:Bool} {v:Value} (hh:Hdr h o n c nn v) {l m:Nat} (hl:l≤m) (hm:m≤n) {t e:TypeId} (ht:elemT P t=some e) (hi:(P.info? e).isSome=true) (hsz:h.sz=szOf P e)
 {vlo vhi:Option Value} (hb:∀ cap,n≤cap→(Instr.sliceBounds true n cap vlo vhi none).run P w=.ok (l,m,cap) w) :
 ∃ u,(Instr.sliceAt t v vlo vhi none).run P w=.ok u w∧Hdr h (o+l) (m-l) (c.map (· - l)) (nn || Nat.blt 0 n) u:=by
 have hu:=elemT_spec ht
 have hrun:∀ a k,n≤k→(Instr.sliceAt t (.slice a n k) vlo vhi none).run P w=.ok (sliced a l m k (szOf P e)) w:=fun a k hk=>by
  have he:P.elem t=e:=by simp [Program.elem,hu]
  have h1:P.underlying t=some (.slice (P.elem t)):=by rw [he];exact hu
  rw [run_sliceAt_slice _ _ _ _ _ _ h1,run_slice_any _ _ _ _ _ h1,hb k hk,he]
  simp [Result.andThen,run_sizeOf_some hi]
 rcases hh with ⟨h0,h1,rfl,h2⟩ | ⟨a,k,rfl,h2,h3,h4,h5,h6⟩
 · subst h1
   refine ⟨_,hrun none 0 (by omega),.inl ⟨by rw [h0];rfl,by omega,?_,fun c' hc'=>?_⟩⟩
   · have:l=0:=by omega
     subst this
     have:m=0:=by omega
     subst this
     rfl
   · cases c with
     | none=>simp at hc'
     | some c0=>simp at hc';have:=h2 c0 rfl;omega
 · refine ⟨_,hrun (some a) k h2,.inr ⟨if k=l then a else a.add (l*szOf P e),k-l,?_,by omega,fun c' hc'=>?_,by omega,fun hc=>?_,fun hk=>?_⟩⟩
   · simp only [sliced]
     split <;> rfl
   · cases c with
     | none=>simp at hc'
     | some c0=>simp at hc';have:=h3 c0 rfl;omega
   · have:=h5 (by cases c <;> simp_all)
     omega
   · rw [if_neg (by omega),h6 (by omega),Addr.add_none _ _ rfl]
     simp [ILoc.at,hsz,Nat.add_mul,Nat.add_assoc]

theorem Hdr.partUp {h:ILoc} {o n:Nat} {v:Value} (hh:Hdr h o n none true v) {l m b:Nat} (hl:l≤m) (hm:m≤b) (hb0:o+b≤h.cap) {t e:TypeId} (ht:elemT P t=some e) (hi:(P.info? e).isSome=true) (hsz:h.sz=szOf P e)
 {vlo vhi:Option Value} (hb:∀ cap,b≤cap→(Instr.sliceBounds true n cap vlo vhi none).run P w=.ok (l,m,cap) w) :
 ∃ u,(Instr.sliceAt t v vlo vhi none).run P w=.ok u w∧Hdr h (o+l) (m-l) none true u:=by
 have hu:=elemT_spec ht
 have hrun:∀ a k,b≤k→(Instr.sliceAt t (.slice a n k) vlo vhi none).run P w=.ok (sliced a l m k (szOf P e)) w:=fun a k hk=>by
  have he:P.elem t=e:=by simp [Program.elem,hu]
  have h1:P.underlying t=some (.slice (P.elem t)):=by rw [he];exact hu
  rw [run_sliceAt_slice _ _ _ _ _ _ h1,run_slice_any _ _ _ _ _ h1,hb k hk,he]
  simp [Result.andThen,run_sizeOf_some hi]
 rcases hh with ⟨h0,_⟩ | ⟨a,k,rfl,h2,h3,h4,h5,h6⟩
 · cases h0
 · have hk:=h5 rfl
   refine ⟨_,hrun (some a) k (by omega),.inr ⟨if k=l then a else a.add (l*szOf P e),k-l,?_,by omega,(fun c' hc'=>by cases hc'),by omega,(fun _=>by omega),fun hk=>?_⟩⟩
   · simp only [sliced]
     split <;> rfl
   · rw [if_neg (by omega),h6 (by omega),Addr.add_none _ _ rfl]
     simp [ILoc.at,hsz,Nat.add_mul,Nat.add_assoc]

theorem slice3_sound (h0:Rel B R w0 L H w) {t:TypeId} {p l h m:AV} {v vl vh vm:Value} (hp:VA H.length L p v) (hl:VA H.length L l vl) (hh:VA H.length L h vh) (hm:VA H.length L m vm) (hs:slice3A P H t p l h m K) :
 ∃ r s,(Instr.sliceAt t v (some vl) (some vh) (some vm)).run P w=.ok s w∧VA H.length L r s∧K r:=by
 unfold slice3A at hs
 split at hs <;> try exact hs.elim
 rename_i r o n c nn kl l kh h km m
 split at hs <;> try exact hs.elim
 rename_i e he
 simp only [cond_eq_ite] at hs
 split at hs <;> try exact hs.elim
 rename_i hi
 obtain ⟨g0,h1,h2,h3,hK⟩:=hs
 obtain rfl:=hl
 obtain rfl:=hh
 obtain rfl:=hm
 obtain ⟨hrN,hd⟩:=hp
 have hd0:=hd
 have hu:=elemT_spec he
 have hel:P.elem t=e:=by simp [Program.elem,hu]
 have hu1:P.underlying t=some (.slice (P.elem t)):=by rw [hel];exact hu
 obtain ⟨a,k,rfl,hk⟩ : ∃ a k,v=.slice a n k∧n≤k:=by
  rcases hd with ⟨_,hn,rfl,_⟩ | ⟨a,k,rfl,hk,_⟩
  · subst hn;exact ⟨none,0,rfl,Nat.le_refl _⟩
  · exact ⟨some a,k,rfl,hk⟩
 obtain ⟨y,hy,hKy⟩ : ∃ y,VA H.length L y (sliced a l.toNat h.toNat m.toNat (szOf P e))∧K y:=by
  unfold cut3A at hK
  split at hK
  · rename_i ro sz rs hrs
    simp only [cond_eq_ite] at hK
    split at hK
    · rename_i hc
      have hc:=Nat.eq_of_beq_eq_true hc
      rw [nth_eq] at hrs
      obtain ⟨osz,_,ocap,_⟩:=h0.obj r _ hrs
      refine ⟨cv (.slc r (o+l.toNat) (h.toNat-l.toNat) (some (m.toNat-l.toNat)) (nn || Nat.blt 0 n)),⟨hrN,?_⟩,hK⟩
      rcases hd0 with ⟨q0,q1,q2,q3⟩ | ⟨a',k',q1,q2,q3,q4,q5,q6⟩
      · cases q2
        obtain rfl:l=0:=by omega
        obtain rfl:h=0:=by omega
        obtain rfl:m=0:=by omega
        exact .inl ⟨by rw [q0];rfl,rfl,rfl,fun c' hc'=>by cases hc';rfl⟩
      · cases q1
        refine .inr ⟨if m.toNat=l.toNat then a' else a'.add (l.toNat*szOf P e),m.toNat-l.toNat,?_,by omega,(fun c' hc'=>by cases hc';rfl),by omega,(fun hc'=>by cases hc'),fun hk'=>?_⟩
        · simp only [sliced]
          split <;> rfl
        · rw [if_neg (by omega),q6 (by omega),Addr.add_none _ _ rfl]
          simp [ILoc.at,osz,hc,Nat.add_mul,Nat.add_assoc]
    · exact ⟨.u,trivial,hK⟩
  · exact ⟨.u,trivial,hK⟩
 refine ⟨y,sliced a l.toNat h.toNat m.toNat (szOf P e),?_,hy,hKy⟩
 rw [run_sliceAt_slice _ _ _ _ _ _ hu1,run_slice_any _ _ _ _ _ hu1,hel]
 have e1:(Instr.sliceBounds true n k (some (FC.int kl l).val) (some (FC.int kh h).val) (some (FC.int km m).val)).run P w=.ok (l.toNat,h.toNat,m.toNat) w:=by
  simp only [Instr.sliceBounds,FC.val,Sem.run_bind,Sem.run_pure]
  rw [run_sliceBound (h0:=by omega) (h1:=by omega)]
  simp only [Result.andThen_ok]
  rw [run_sliceBound (h0:=by omega) (h1:=by omega)]
  simp only [Result.andThen_ok]
  rw [run_sliceBound (h0:=by omega) (h1:=by omega)]
  rfl
 rw [e1]
 simp only [Result.andThen,run_sizeOf_some hi]

theorem slice_sound (h:Rel B R w0 L H w) {t:TypeId} {p:AV} {v:Value} {lo hi mx:Option AV} {vlo vhi vmx:Option Value} (hp:VA H.length L p v)
 (hlo:(lo=none∧vlo=none)∨∃ x v,lo=some x∧vlo=some v∧VA H.length L x v) (hhi:(hi=none∧vhi=none)∨∃ x v,hi=some x∧vhi=some v∧VA H.length L x v)
 (hmx:(mx=none∧vmx=none)∨∃ x v,mx=some x∧vmx=some v∧VA H.length L x v) (hs:sliceA P H t p lo hi mx K) :
 ∃ r s,(Instr.sliceAt t v vlo vhi vmx).run P w=.ok s w∧VA H.length L r s∧K r:=by
 unfold sliceA at hs
 split at hs
 · split at hs <;> try exact hs.elim
   rcases hlo with ⟨hx,_⟩ | ⟨x1,v1,hx,rfl,g1⟩ <;> cases hx
   rcases hhi with ⟨hx,_⟩ | ⟨x2,v2,hx,rfl,g2⟩ <;> cases hx
   rcases hmx with ⟨hx,_⟩ | ⟨x3,v3,hx,rfl,g3⟩ <;> cases hx
   exact slice3_sound h hp g1 g2 g3 hs
 obtain ⟨_,rfl⟩ : none=(none:Option AV)∧vmx=none:=by
  rcases hmx with hh | ⟨_,_,hx,_⟩
  · exact hh
  · cases hx
 split at hs <;> try exact hs.elim
 · rename_i s
   obtain rfl:=hp
   split at hs <;> try exact hs.elim
   rename_i hu
   obtain ⟨l,m,hl,hm,hb,hK⟩:=bounds_sound (P:=P) (w:=w) hlo hhi hs
   replace hb:=hb s.length false (Nat.le_refl _)
   refine ⟨st ((s.drop l).take (m-l)),.string ⟨((s.drop l).take (m-l)).toArray⟩,?_,rfl,hK⟩
   rw [FC.val,run_sliceAt_string _ _ _ _ _ _ hu]
   have hsz:(ByteArray.mk s.toArray).size=s.length:=rfl
   simp only [Instr.slice,Sem.run_bind,run_underlying_some hu,Result.andThen_ok,hsz]
   simp only [Option.isSome_none,Bool.false_eq_true,if_false,Sem.run_bind,Sem.run_pure,Result.andThen_ok,hb]
   congr 2
   apply ByteArray.ext
   simp only [ByteArray.data_extract]
   apply Array.ext'
   simp
 · rename_i r o n c nn
   obtain ⟨hr,hh⟩:=hp
   split at hs <;> try exact hs.elim
   · rename_i e ro sz rs he hrs
     rw [nth_eq] at hrs
     obtain ⟨hi',hsz,hs⟩:=rowsSz_spec hs
     obtain ⟨osz,_,ocap,_⟩:=h.obj r _ hrs
     rcases hs with hs | ⟨rfl,rfl,hor,hs⟩
     · obtain ⟨l,m,hl,hm,hb,hK⟩:=bounds_sound (P:=P) (w:=w) hlo hhi hs
       obtain ⟨u,hu1,hu2⟩:=hh.part hl hm he hi' (by omega) fun cap hc=>hb cap true hc
       refine ⟨_,u,hu1,?_,hK⟩
       exact ⟨hr,hu2⟩
     · obtain ⟨l,m,hl,hm,hb,hK⟩:=boundsUp_sound (P:=P) (w:=w) (n:=n) hlo hhi hs
       obtain ⟨u,hu1,hu2⟩:=hh.partUp hl hm (by omega) he hi' (by omega) fun cap hc=>hb cap true hc
       refine ⟨_,u,hu1,?_,hK⟩
       exact ⟨hr,hu2⟩
   · rename_i e ro sz rs he hrs
     rw [nth_eq] at hrs
     obtain ⟨hi',hsz,hs⟩:=rowsSz_spec hs
     obtain ⟨osz,_⟩:=h.obj r _ hrs
     obtain ⟨l,m,hl,hm,hb,hK⟩:=bounds_sound (P:=P) (w:=w) hlo hhi hs
     obtain ⟨u,hu1,hu2⟩:=hh.part hl hm he hi' (by omega) fun cap hc=>hb cap true hc
     refine ⟨_,u,hu1,?_,hK⟩
     exact ⟨hr,hu2⟩
   · rename_i e ap sz es he hrs
     rw [nth_eq] at hrs
     obtain ⟨hi',hsz,hs⟩:=rowsSz_spec hs
     obtain ⟨osz,_⟩:=h.obj r _ hrs
     obtain ⟨l,m,hl,hm,hb,hK⟩:=bounds_sound (P:=P) (w:=w) hlo hhi hs
     obtain ⟨u,hu1,hu2⟩:=hh.part hl hm he hi' (by omega) fun cap hc=>hb cap true hc
     refine ⟨_,u,hu1,?_,hK⟩
     exact ⟨hr,hu2⟩
 · rename_i r i o n c nn
   obtain ⟨hr,hh⟩:=hp
   split at hs <;> try exact hs.elim
   rename_i e ro sz rss he hrs
   rw [nth_eq] at hrs
   obtain ⟨hi',hsz,hil,hs⟩:=rowsSz_spec hs
   obtain ⟨_,_,_,hc,_⟩:=h.obj r _ hrs
   obtain ⟨⟨osz,_⟩,_⟩:=hc i rss[i] (by simp [hil])
   obtain ⟨l,m,hl,hm,hb,hK⟩:=bounds_sound (P:=P) (w:=w) hlo hhi hs
   obtain ⟨u,hu1,hu2⟩:=hh.part hl hm he hi' (by omega) fun cap hc=>hb cap true hc
   refine ⟨_,u,hu1,?_,hK⟩
   exact ⟨hr,hu2⟩
 · obtain rfl:=hp
   split at hs <;> try exact hs.elim
   rename_i e he
   obtain ⟨hi',hsz,hs⟩:=rowsSz_spec hs
   obtain ⟨l,m,hl,hm,hb,hK⟩:=bounds_sound (P:=P) (w:=w) hlo hhi hs
   have hu:=elemT_spec he
   have he2:P.elem t=e:=by simp [Program.elem,hu]
   have h1:P.underlying t=some (.slice (P.elem t)):=by rw [he2];exact hu
   refine ⟨cv .nilslc,.slice none 0 0,?_,rfl,hK⟩
   rw [run_sliceAt_slice _ _ _ _ _ _ h1,run_slice_any _ _ _ _ _ h1,hb 0 true (Nat.le_refl _),he2]
   obtain rfl:l=0:=by omega
   obtain rfl:m=0:=by omega
   simp [Result.andThen,run_sizeOf_some hi',sliced]

theorem len_sound {t ty:TypeId} {p:AV} {v:Value} (hp:VA N L p v) (hs:lenA P t p K):∃ r s,(Builtin.len_ #[t] ty #[v]).run P w=.ok s w∧VA N L r s∧K r:=by
 unfold lenA at hs
 split at hs <;> try exact hs.elim
 all_goals
  split at hs <;> try exact hs.elim
  rename_i hu
 · obtain rfl:=hp
   rename_i s
   exact ⟨i64 _,_,run_len_string w t ty _ hu,rfl,hs⟩
 all_goals
  have hrun:∀ (b:Option Addr) (n c:Nat),(Builtin.len_ #[t] ty #[.slice b n c]).run P w=.ok (goInt n) w:=fun b n c=>run_len_slice w t ty b n c (by simp [Program.elem,hu])
 · obtain ⟨_,⟨_,rfl,rfl,_⟩ | ⟨a,k,rfl,_⟩⟩:=hp <;> exact ⟨i64 _,_,hrun _ _ _,rfl,hs⟩
 · obtain ⟨_,⟨_,rfl,rfl,_⟩ | ⟨a,k,rfl,_⟩⟩:=hp <;> exact ⟨i64 _,_,hrun _ _ _,rfl,hs⟩
 · obtain ⟨_,rfl,rfl,_⟩ | ⟨a,k,rfl,_⟩:=hp <;> exact ⟨i64 _,_,hrun _ _ _,rfl,hs⟩
 · obtain rfl:=hp
   exact ⟨i64 _,_,hrun _ _ _,rfl,hs⟩
 · obtain ⟨rfl,rfl⟩ | ⟨a,k,rfl⟩:=hp <;> exact ⟨i64 _,_,hrun _ _ _,rfl,hs⟩

theorem index_sound {t:TypeId} {p q:AV} {v u:Value} (hp:VA N L p v) (hq:VA N L q u) (hs:indexA P t p q K):∃ r s,(Instr.index t v u).run P w=.ok s w∧VA N L r s∧K r:=by
 unfold indexA at hs
 split at hs <;> try exact hs.elim
 · split at hs <;> try exact hs.elim
   rename_i s kd j _ hu
   obtain rfl:=hp
   obtain rfl:=hq
   obtain ⟨h0,b,hb,hK⟩:=hs
   have hlt:=(List.getElem?_eq_some_iff.1 hb).1
   have hsz:(ByteArray.mk s.toArray).size=s.length:=rfl
   refine ⟨fcv (.int .u8 b.toNat),.int .u8 b.toNat,?_,rfl,hK⟩
   simp only [FC.val]
   rw [run_index_string _ _ _ _ _ hu,dif_pos ⟨h0,by rw [hsz];omega⟩]
   congr 4
   have:(ByteArray.mk s.toArray)[j.toNat]'(by rw [hsz];exact hlt)=s[j.toNat]:=rfl
   rw [this]
   exact (List.getElem?_eq_some_iff.1 hb).2
 · rename_i cs kd j
   split at hs <;> try exact hs.elim
   rename_i n e he
   obtain ⟨vs,rfl,hvs⟩:=hp
   obtain rfl:=hq
   have hrun:0≤j→j<(n:Int)→(P.info? e).isSome=true→(Instr.index t (.agg vs.toArray) (.int kd j)).run P w=(part e vs.toArray (j.toNat*szOf P e)).run P w:=fun h0 h1 hi=>by
    simp only [Instr.index,asIntOf,Sem.run_bind,Sem.run_pure,Result.andThen_ok,run_underlying_some (arrT_spec he),run_sizeOf_some hi,if_pos (show 0≤j∧j<(n:Int) from ⟨h0,h1⟩)]
   split at hs <;> try exact hs.elim
   · rename_i hagg
     simp only [cond_eq_ite] at hs
     split at hs <;> try exact hs.elim
     rename_i hinfo
     obtain ⟨h0,h1,xs,hx,hK⟩:=hs
     refine ⟨.p (.agg xs),.agg (vs.toArray.extract (j.toNat*szOf P e) (j.toNat*szOf P e+szOf P e)),?_,⟨(vs.drop (j.toNat*szOf P e)).take (szOf P e),?_,?_⟩,hK⟩
     · refine (hrun h0 h1 hinfo).trans ?_
       simp only [part,Sem.run_bind,run_isAgg_some hagg,Result.andThen_ok,run_sizeOf_some hinfo,if_true,Sem.run_pure]
     · congr 1
       simp
     · subst hx
       have hl:=hvs.length
       refine VCs.of_get (by simp [hl]) fun i x v hx hv=>?_
       rw [List.getElem?_take] at hx hv
       split at hx
       · rename_i hi
         rw [if_pos hi] at hv
         rw [List.getElem?_drop] at hx hv
         obtain ⟨v',hv',hr⟩:=hvs.get hx
         rw [hv] at hv'
         cases hv'
         exact hr
       · cases hx
   · rename_i hagg
     simp only [cond_eq_ite] at hs
     split at hs <;> try exact hs.elim
     rename_i hinfo
     obtain ⟨h0,h1,x,hx,hK⟩:=hs
     obtain ⟨v,hv,hr⟩:=hvs.get hx
     refine ⟨.p (.c x),v,?_,hr,hK⟩
     refine (hrun h0 h1 hinfo).trans ?_
     simp only [part,Sem.run_bind,run_isAgg_some hagg,Result.andThen_ok,Bool.false_eq_true,if_false]
     simp [hv]

def vals (xs:List (List FC)):List Value:=xs.flatten.map FC.val

theorem flat_get {sz:Nat}:∀ {xs:List (List FC)} (_:∀ r∈xs,r.length=sz) {i f:Nat} {r:List FC} {x:FC},xs[i]? = some r→r[f]? = some x→(vals xs)[i*sz+f]? = some x.val
 | [],_,i,f,r,x,hi,_=>by simp at hi
 | y::xs,hs,i,f,r,x,hi,hf=>by
   have hy:=hs y (by simp)
   simp only [vals,List.flatten_cons,List.map_append]
   cases i with
   | zero =>
     simp at hi;subst hi
     have:f<y.length:=(List.getElem?_eq_some_iff.1 hf).1
     rw [Nat.zero_mul,Nat.zero_add,List.getElem?_append_left (by simpa using this),List.getElem?_map,hf]
     rfl
   | succ i =>
     have:=flat_get (fun r hr=>hs r (by simp [hr])) (xs:=xs) (by simpa using hi) hf
     rw [List.getElem?_append_right (by simp [hy,Nat.add_mul];omega)]
     rw [←this,vals]
     congr 1
     simp [hy,Nat.add_mul]
     omega

theorem vals_length {sz:Nat}:∀ {xs:List (List FC)} (_:∀ r∈xs,r.length=sz),(vals xs).length=xs.length*sz
 | [],_=>by simp [vals]
 | y::xs,hs=>by
   have:=vals_length (xs:=xs) fun r hr=>hs r (by simp [hr])
   simp only [vals,List.length_map] at this ⊢
   simp [hs y (by simp),this,Nat.add_mul]
   omega

theorem vals_get {sz:Nat}:∀ {xs:List (List FC)} (_:∀ r∈xs,r.length=sz) (_:0<sz) {j:Nat} {v:Value},(vals xs)[j]? = some v →
 ∃ i f r x,j=i*sz+f∧f<sz∧xs[i]? = some r∧r[f]? = some x∧v=x.val
 | [],_,_,j,v,h=>by simp [vals] at h
 | y::xs,hs,hp,j,v,h=>by
   have hy:=hs y (by simp)
   simp only [vals,List.flatten_cons,List.map_append] at h
   rcases Nat.lt_or_ge j y.length with hj | hj
   · rw [List.getElem?_append_left (by simpa using hj),List.getElem?_map,Option.map_eq_some_iff] at h
     obtain ⟨x,hx,rfl⟩:=h
     exact ⟨0,j,y,x,by simp,by omega,rfl,hx,rfl⟩
   · rw [List.getElem?_append_right (by simpa using hj)] at h
     obtain ⟨i,f,r,x,h1,h2,h3,h4,h5⟩:=vals_get (fun r hr=>hs r (by simp [hr])) hp (xs:=xs) h
     simp only [List.length_map] at h1
     exact ⟨i+1,f,r,x,by rw [Nat.add_mul];omega,h2,by simpa using h3,h4,h5⟩

theorem vals_one {xs:List (List FC)}:∀ v∈vals xs,OneCell v=true:=by
 intro v hv
 obtain ⟨x,_,rfl⟩:=List.mem_map.1 hv
 cases x <;> rfl

theorem rows_of_cells {w:World} {b cap sz n:Nat} {c:Array Value} {t:TypeId} {fr:Nat×Nat} {xs:List (List FC)} (hb:w.heap[b]? = some (.cells c t fr)) (hn:c.size=n) (hfr:∀ i,i<c.size→¬(fr.1≤i∧i<fr.2))
 (hsz:0<sz) (hcap:xs.length≤cap) (hle:cap*sz≤n) (hs:∀ r∈xs,r.length=sz) (hg:∀ (j:Nat) (v:Value),(vals xs)[j]? = some v→c[j]? = some v) (own:Bool):RowsAt w own sz xs ⟨b,0,cap,sz⟩:=by
 refine ⟨rfl,hsz,hcap,fun _ _=>⟨rfl,n,hle,c,t,fr,hb,hn,hfr⟩,fun i r hi=>⟨hs r (List.mem_of_getElem? hi),fun f x hx=>?_⟩⟩
 have:=hg _ _ (flat_get hs hi hx)
 simp [World.cell?,ILoc.at,hb,this]

theorem RowsAt.vals {own:Bool} {sz:Nat} {rs:List (List FC)} {h:ILoc} (hr:RowsAt w own sz rs h) (o n:Nat) (hle:o+n≤rs.length) :
 (∀ r∈(rs.drop o).take n,r.length=sz)∧(vals ((rs.drop o).take n)).length=n*sz ∧
   ∀ (j:Nat) (v:Value),(Mac.vals ((rs.drop o).take n))[j]? = some v→w.cell? ((h.at o 0).add j)=some v:=by
 obtain ⟨h1,h2,h3,h4,h5⟩:=hr
 have hs:∀ r∈(rs.drop o).take n,r.length=sz:=fun r hr=>by
  obtain ⟨i,hi⟩:=List.mem_iff_getElem?.1 (List.mem_of_mem_take hr)
  rw [List.getElem?_drop] at hi
  exact (h5 _ _ hi).1
 refine ⟨hs,by rw [vals_length hs];congr 1;simp;omega,fun j v hj=>?_⟩
 obtain ⟨i,f,r,x,rfl,hf,hi,hx,rfl⟩:=vals_get hs h2 hj
 rw [List.getElem?_take] at hi
 split at hi
 · rw [List.getElem?_drop] at hi
   have:=(h5 _ _ hi).2 f x hx
   rw [Addr.add_none _ _ rfl]
   simpa [ILoc.at,h1,Nat.add_mul,Nat.add_assoc] using this
 · cases hi

theorem rowsOf_sound (h:Rel B R w0 L H w) {e:TypeId} {i:TypeInfo} (hi:P.info? e=some i) {x:AV} {v:Value} (hx:VA H.length L x v) {k:List (List FC)→Prop} (hs:rowsOfA P H e x k) :
 ∃ xs n,k xs∧xs.length=n∧(∀ r∈xs,r.length=i.size)∧((n=0∧v=.slice none 0 0)∨∃ a c,v=.slice (some a) n c∧∀ (j:Nat) (u:Value),(vals xs)[j]? = some u→w.cell? (a.add j)=some u):=by
 have hszOf:szOf P e=i.size:=by simp [szOf,hi]
 have key:∀ (own:Bool) (rs:List (List FC)) (hd:ILoc) (o n:Nat) (c:Option Nat) (nn:Bool),RowsAt w own i.size rs hd→o+n≤rs.length→Hdr hd o n c nn v →
  (∀ r∈(rs.drop o).take n,r.length=i.size)∧((rs.drop o).take n).length=n ∧
    ((n=0∧v=.slice none 0 0)∨∃ a c,v=.slice (some a) n c∧∀ (j:Nat) (u:Value),(vals ((rs.drop o).take n))[j]? = some u→w.cell? (a.add j)=some u):=by
  intro own rs hd o n c nn hr hle hh
  obtain ⟨h1,_,h3⟩:=hr.vals o n hle
  refine ⟨h1,by simp;omega,?_⟩
  rcases hh with ⟨_,h0,hv,_⟩ | ⟨a,kk,hv,hnk,_,_,_,ha⟩
  · exact .inl ⟨h0,hv⟩
  · right
    refine ⟨a,kk,hv,fun j u hj=>?_⟩
    rcases Nat.eq_zero_or_pos n with hn0 | hn0
    · subst hn0;simp [vals] at hj
    · rw [ha (by omega)];exact h3 j u hj
 unfold rowsOfA at hs
 split at hs <;> try exact hs.elim
 · obtain rfl:=hx
   exact ⟨[],0,hs,rfl,by simp,.inl ⟨rfl,rfl⟩⟩
 · rename_i r o n c nn
   obtain ⟨_,hh⟩:=hx
   rw [nth_eq] at hs
   split at hs <;> try exact hs.elim
   rename_i ro sz rs hrs
   simp only [cond_eq_ite] at hs
   split at hs <;> try exact hs.elim
   rename_i hb
   have hb:=Nat.eq_of_beq_eq_true hb
   obtain ⟨hle,hk⟩:=hs
   have hor:RowsAt w (!ro) sz rs (L r).h:=h.obj r _ hrs
   rw [hb,hszOf] at hor
   obtain ⟨h1,h2,h3⟩:=key _ _ _ o n c nn hor hle hh
   exact ⟨_,n,hk,h2,h1,h3⟩
 · rename_i r i' o n c nn
   obtain ⟨_,hh⟩:=hx
   rw [nth_eq] at hs
   split at hs <;> try exact hs.elim
   rename_i ro sz rss hrs
   simp only [cond_eq_ite] at hs
   split at hs <;> try exact hs.elim
   rename_i hb
   have hb:=Nat.eq_of_beq_eq_true hb
   obtain ⟨rs,hrs',hle,hk⟩:=hs
   obtain ⟨_,_,_,hc,_⟩:=h.obj r _ hrs
   obtain ⟨hor,_⟩:=hc _ rs hrs'
   rw [hb,hszOf] at hor
   obtain ⟨h1,h2,h3⟩:=key _ _ _ o n c nn hor hle hh
   exact ⟨_,n,hk,h2,h1,h3⟩

theorem move_sound (h:Rel B R w0 L H w) {r:Nat} {sz sz':Nat} {rs rs':List (List FC)} (hr:H[r]? = some (.rows false sz rs)) {w':World} (l':ILoc)
 (hbel:Bel (fun k=>k<w.heap.size∧¬((L r).h.cap≠0∧k=(L r).h.blk)) w w') (hown:l'.cap≠0→l'.blk<w'.heap.size∧(w.heap.size≤l'.blk∨(L r).h.cap≠0∧l'.blk=(L r).h.blk))
 (hR:RowsAt w' true sz' rs' l') :
 Agree H.length [r] L (upd L r ⟨l',(L r).inn⟩)∧Rel B R w0 (upd L r ⟨l',(L r).inn⟩) ((H.map (killO [r])).set r (.rows false sz' rs')) w':=by
 have hlt:=(List.getElem?_eq_some_iff.1 hr).1
 have hag:Agree H.length [r] L (upd L r ⟨l',(L r).inn⟩):=fun i _ hm=>upd_ne (by simpa using hm)
 have hnB:∀ k,B k→k<w.heap.size∧¬((L r).h.cap≠0∧k=(L r).h.blk):=fun k hk=>⟨h.size k hk,fun hh=>(h.own r _ k hr hh).1 hk⟩
 refine ⟨hag,h.put (M:=[r]) r (.rows false sz' rs') (by simp) (List.getElem?_set_self (by simpa using hlt)) (fun j hj o ho=>?_) hag (fun j hj=>upd_ne hj)
  ⟨hbel.os,hbel.tape,hbel.output,hbel.size,fun k hk=>hbel.block k (hnB k hk)⟩ (fun b hb=>?_) (fun b hb=>?_) (fun b hb=>hb.elim) ?_⟩
 · rw [List.getElem?_set_ne (Ne.symm hj),List.getElem?_map,Option.map_eq_some_iff] at ho
   obtain ⟨o0,h1,h2⟩:=ho
   exact ⟨o0,h1,h2.symm⟩
 · by_cases hh:(L r).h.cap≠0∧b=(L r).h.blk
   · exact .inr ⟨_,hr,hh⟩
   · exact .inl (hbel.block b ⟨hb,hh⟩)
 · rw [upd_self] at hb
   obtain ⟨hc,rfl⟩:=hb
   obtain ⟨h1,h2⟩:=hown hc
   rcases h2 with h2 | h2
   · exact ⟨fun hB=>Nat.lt_irrefl _ (Nat.lt_of_lt_of_le (h.size _ hB) h2),h1,.inl h2⟩
   · exact ⟨(h.own r _ _ hr h2).1,h1,.inr ⟨_,hr,h2⟩⟩
 · rw [upd_self];exact hR

theorem none_sound (h:Rel B R w0 L H w) (sz:Nat) (hsz:0<sz):Agree H.length [] L (upd L H.length ⟨⟨0,0,0,sz⟩,fun _=>⟨0,0,0,0⟩⟩)∧Rel B R w0 (upd L H.length ⟨⟨0,0,0,sz⟩,fun _=>⟨0,0,0,0⟩⟩) (H++[.rows false sz []]) w:=by
 have hag:=upd_agree L ⟨⟨0,0,0,sz⟩,fun _=>⟨0,0,0,0⟩⟩ H.length []
 refine ⟨hag,h.put (M:=[]) H.length (.rows false sz []) (by simp) (by simp) (fun j hj o1 ho1=>?_) hag (fun j hj=>upd_ne hj) (Bel.refl _ _) (fun _ _=>.inl rfl) (fun b hb=>?_) (fun b hb=>hb.elim) ?_⟩
 · rcases Nat.lt_or_gt_of_ne hj with hl | hg
   · rw [List.getElem?_append_left hl] at ho1
     exact ⟨o1,ho1,(killO_nil o1).symm⟩
   · rw [List.getElem?_eq_none (by simp;omega)] at ho1
     cases ho1
 · rw [upd_self] at hb;exact absurd rfl hb.1
 · rw [upd_self];exact ⟨rfl,hsz,Nat.le_refl _,fun _ hc=>absurd rfl hc,fun i r hi=>by simp at hi⟩

theorem killHK_eq (M:List Nat) (H:List PO) (k:List PO→Prop):killHK M H k=k (H.map (killO M)):=by
 cases M with
 | nil =>
   have:H.map (killO [])=H:=by
    conv=>rhs;rw [←List.map_id H]
    exact List.map_congr_left fun o _=>killO_nil o
   simp [killHK,this]
 | cons m M=>rfl

def SrcAt (P:Program) (w:World) (u:TypeId) (sz m:Nat) (v:Value) (xs:List Value):Prop :=
 (∃ e',P.underlying u=some (.slice e')∧((m=0∧v=.slice none 0 0)∨∃ b c,v=.slice (some b) m c∧∀ (j:Nat) (z:Value),xs[j]? = some z→w.cell? (b.add j)=some z)) ∨
 (P.underlying u=some .string∧sz=1∧∃ s:List UInt8,v=.string ⟨s.toArray⟩∧m=s.length∧xs=s.map fun b=>Value.int .u8 b.toNat)

theorem SrcAt.drew {u:TypeId} {sz m:Nat} {v:Value} {xs:List Value} (h:SrcAt P w u sz m v xs):SrcAt P w.drew u sz m v xs:=by
 rcases h with ⟨e',h1,h2⟩ | h
 · refine .inl ⟨e',h1,?_⟩
   rcases h2 with h2 | ⟨b,c,h3,h4⟩
   · exact .inl h2
   · exact .inr ⟨b,c,h3,by simpa using h4⟩
 · exact .inr h

theorem SrcAt.first {u:TypeId} {sz m:Nat} {v:Value} {xs:List Value} (h:SrcAt P w u sz m v xs) (hl:xs.length=m*sz):(Builtin.firstCells sz m v).run P w=.ok xs.toArray w∧(Builtin.lenOf v).run P w=.ok m w ∧
 ((∃ e',P.underlying u=some (.slice e'))∨P.underlying u=some .string):=by
 rcases h with ⟨e',h1,h2⟩ | ⟨h1,rfl,s,rfl,rfl,rfl⟩
 · refine ⟨?_,?_,.inl ⟨_,h1⟩⟩
   · rcases h2 with ⟨rfl,rfl⟩ | ⟨b,c,rfl,hc⟩
     · have:xs=[]:=List.length_eq_zero_iff.1 (by simpa using hl)
       subst this
       exact run_firstCells_none w _ _ _ _
     · exact run_firstCells_some w _ _ _ _ _ xs hl hc
   · rcases h2 with ⟨rfl,rfl⟩ | ⟨b,c,rfl,hc⟩ <;> rfl
 · refine ⟨?_,rfl,.inr h1⟩
   have e1:(ByteArray.extract ⟨s.toArray⟩ 0 s.length).data=s.toArray:=by
    rw [ByteArray.data_extract]
    simp
   simp only [Builtin.firstCells,Sem.run_pure,e1]
   congr 1
   simp

theorem run_append_in {t u ty e:TypeId} {i:TypeInfo} (ht:P.underlying t=some (.slice e)) (hi:P.info? e=some i) {a:Option Addr} {n k:Nat} {v:Value} {m:Nat} {xs:List Value}
 (hv:SrcAt P w u i.size m v xs) (hl:xs.length=m*i.size) (hle:n+m≤k) {w':World}
 (hst:∀ a0,a=some a0→(storeCells (a0.add (n*i.size)) xs).run P w=.ok () w') (hno:a=none→w'=w) :
 (Builtin.append_ #[t,u] ty #[.slice a n k,v]).run P w=.ok (.slice a (n+m) k) w':=by
 obtain ⟨hf1,hf2,hu⟩:=hv.first hl
 cases a with
 | none =>
   have:=hno rfl
   subst this
   rcases hu with ⟨e',hu⟩ | hu <;> simp [Builtin.append_,run_underlying_some ht,run_underlying_some hu,sizeOf,typeInfo,hi,hf1,hf2,hle]
 | some a0 =>
   rcases hu with ⟨e',hu⟩ | hu <;> simp [Builtin.append_,run_underlying_some ht,run_underlying_some hu,sizeOf,typeInfo,hi,hf1,hf2,hle,hst a0 rfl]

theorem run_append_out {t u ty e:TypeId} {i:TypeInfo} {z:Value} (ht:P.underlying t=some (.slice e)) (hi:P.info? e=some i) (hz:i.zero=some z) {s v:Value} {n m k:Nat} {os xs:List Value}
 (hs:(n=0∧k=0∧s=.slice none 0 0)∨∃ b,s=.slice (some b) n k∧∀ (j:Nat) (z:Value),os[j]? = some z→w.cell? (b.add j)=some z) (hlo:os.length=n*i.size)
 (hv:SrcAt P w u i.size m v xs) (hl:xs.length=m*i.size) (hlt:k<n+m)
 (h47:(n+m)*i.bytes≤140737488355328) (h63:n+m≤9223372036854775807) :
 (Builtin.append_ #[t,u] ty #[s,v]).run P w=.ok (.slice (some ⟨w.heap.size,0,none⟩) (n+m) (grownCap w (n+m) k e))
   (w.drew.alloc (.cells (os.toArray++xs.toArray++Builtin.zeroCells z.cells (grownCap w (n+m) k e-(n+m))) e)):=by
 have hf:(Builtin.firstCells i.size m v).run P w.drew=.ok xs.toArray w.drew∧(Builtin.lenOf v).run P w=.ok m w:=⟨(hv.drew.first hl).1,(hv.first hl).2.1⟩
 obtain ⟨_,_,hu⟩:=hv.first hl
 have hn:¬(n+m≤k):=by omega
 have h63':¬(9223372036854775807<((n:Int)+(m:Int))):=by omega
 have hfit:=growslice_fits hlt h47
 have h48':¬(281474976710656<Builtin.nextslicecap (n+m) k*i.bytes):=by omega
 rcases hs with ⟨rfl,rfl,rfl⟩ | ⟨b,rfl,hb⟩
 · have:os=[]:=List.length_eq_zero_iff.1 (by simpa using hlo)
   subst this
   have hm:m≠0:=by omega
   have k1:¬(9223372036854775807<(m:Int)):=by omega
   have k2:¬(281474976710656<Builtin.nextslicecap m 0*i.bytes):=by rwa [Nat.zero_add] at h48'
   have hf1:=hf.1
   have hf2:=hf.2
   rcases hu with ⟨e',hu⟩ | hu <;> simp [Builtin.append_,run_underlying_some ht,run_underlying_some hu,sizeOf,typeInfo,zeroValue,hi,hz,hf1,hf2,hm,k1,k2,Question.forced,run_firstCells_none,newRow,grownCap]
 · have hfo:=run_firstCells_some (P:=P) w.drew i.size n b n k os hlo (by simpa using hb)
   rcases hu with ⟨e',hu⟩ | hu
   all_goals
    simp [Builtin.append_,run_underlying_some ht,run_underlying_some hu,sizeOf,typeInfo,zeroValue,hi,hz,hf.1,hf.2,hn,h63',h48',Question.forced,hfo,newRow,grownCap]
    congr 2
    apply Array.ext'
    simp [List.append_assoc]

theorem zero_spec {e:TypeId} {i:TypeInfo} {z:PV} (hi:P.info? e=some i) (h:zval P e=.p z):∃ v,i.zero=some v∧VP N L z v:=by
 unfold zval at h
 rw [hi] at h
 cases hz:i.zero with
 | none=>simp [hz] at h
 | some v =>
   simp [hz] at h
   refine ⟨v,rfl,?_⟩
   have:=avOf_ok (N:=N) (L:=L) v
   rwa [h] at this

theorem rows_fresh {w:World} {cap sz:Nat} {e:TypeId} {rs:List (List FC)} {zs:Array Value} (hsz:0<sz) (hs:∀ r∈rs,r.length=sz) (hcap:rs.length≤cap) (hz:zs.size=(cap-rs.length)*sz) (own:Bool) :
 RowsAt (w.alloc (.cells ((vals rs).toArray++zs) e)) own sz rs ⟨w.heap.size,0,cap,sz⟩:=by
 have hl:=vals_length hs
 refine rows_of_cells (c:=(vals rs).toArray++zs) (n:=cap*sz) (heap_alloc_eq w _) ?_ (by simp) hsz hcap (Nat.le_refl _) hs (fun j v hj=>?_) own
 · simp only [Array.size_append,List.size_toArray,hl,hz,←Nat.add_mul]
   congr 1;omega
 · have:j<(vals rs).length:=(List.getElem?_eq_some_iff.1 hj).1
   rw [Array.getElem?_append_left (by simpa using this)]
   simpa using hj

theorem src_sound (h:Rel B R w0 L H w) {e u:TypeId} {i:TypeInfo} (hi:P.info? e=some i) {x:AV} {v:Value} (hx:VA H.length L x v) {k:List (List FC)→Prop} (hs:srcA P H e u x k) :
 ∃ xs n,k xs∧xs.length=n∧(∀ r∈xs,r.length=i.size)∧SrcAt P w u i.size n v (vals xs):=by
 unfold srcA at hs
 split at hs
 · rename_i e' he'
   obtain ⟨xs,n,h1,h2,h3,h4⟩:=rowsOf_sound h hi hx hs
   exact ⟨xs,n,h1,h2,h3,.inl ⟨e',elemT_spec he',h4⟩⟩
 · split at hs <;> try exact hs.elim
   rename_i s hu
   obtain rfl:v=_:=hx
   simp only [cond_eq_ite,Bool.and_eq_true] at hs
   split at hs <;> try exact hs.elim
   rename_i hc
   have hsz:i.size=1:=by
    have:=Nat.eq_of_beq_eq_true hc.2
    simpa [szOf,hi] using this
   have hvals:∀ l:List UInt8,vals (l.map fun b=>[FC.int .u8 (b.toNat:Int)])=l.map fun b=>Value.int .u8 (b.toNat:Int):=by
    intro l
    induction l with
    | nil=>rfl
    | cons b l ih =>
      simp only [vals,List.map_cons,List.flatten_cons,List.map_append] at ih ⊢
      rw [ih]
      rfl
   refine ⟨_,s.length,hs,by simp,fun r hr=>?_,.inr ⟨hu,hsz,s,rfl,rfl,hvals s⟩⟩
   obtain ⟨b,_,rfl⟩:=List.mem_map.1 hr
   rw [hsz];rfl

theorem append_sound (h:Rel B R w0 L H w) {ts:List TypeId} {ty:TypeId} {s x:AV} {v u:Value} (hs:VA H.length L s v) (hx:VA H.length L x u) {K:KP} (ha:appendA P H ts s x K) :
 ∃ r w',(Builtin.append_ ts.toArray ty #[v,u]).run P w=.ok r w'∧Left B R w0 H.length L K r w':=by
 unfold appendA at ha
 split at ha <;> try exact ha.elim
 rename_i t u'
 split at ha <;> try exact ha.elim
 rename_i e he
 split at ha <;> try exact ha.elim
 rename_i i z hi hz
 simp only [cond_eq_ite,Bool.and_eq_true] at ha
 split at ha <;> try exact ha.elim
 rename_i hc
 have hsz:0<i.size:=by simpa [Nat.blt_eq] using hc.1
 obtain ⟨zv,hzv,hzr⟩:=zero_spec (N:=H.length) (L:=L) hi hz
 have hzc:zv.cells.size=i.size:=by
  have h1:=(VP.cells hzr).length
  have h2:=lenIs_spec _ _ hc.2
  rw [←h2,h1];simp
 have ht:=elemT_spec he
 obtain ⟨xs,m,ha2,hxm,hxs,hxv⟩:=src_sound h hi hx ha
 clear ha
 have ha:=ha2
 clear ha2
 have hxl:=vals_length hxs
 rw [hxm] at hxl
 have hzeros:∀ n c:Nat,(Builtin.zeroCells zv.cells (c-n)).size=(c-n)*i.size:=fun n c=>by rw [size_zeroCells,hzc]
 split at ha <;> try exact ha.elim
 · -- of nil
   obtain ⟨h47,h63,hK⟩:=ha
   have hK:=snocK_spec hK
   obtain rfl:=hs
   rw [hxm] at h47 h63 hK
   rcases Nat.eq_zero_or_pos m with hm | hm
   · subst hm
     have hx0:xs=[]:=List.length_eq_zero_iff.1 hxm
     subst hx0
     obtain ⟨h1,h2⟩:=none_sound h i.size hsz
     refine ⟨_,w,run_append_in (a:=none) ht hi hxv (by simpa using hxl) (by omega) (fun a0 ha0=>by cases ha0) (fun _=>rfl),_,_,_,_,h1,by simp,?_,h2,hK⟩
     exact ⟨by simp,.inl ⟨rfl,rfl,rfl,by simp⟩⟩
   · have hr:=run_append_out (P:=P) (w:=w) (ty:=ty) (os:=[]) (n:=0) (k:=0) ht hi hzv (.inl ⟨rfl,rfl,rfl⟩) (by simp) hxv (by simpa using hxl) (by omega) (by simpa using h47) (by simpa using h63)
     simp only [Nat.zero_add,Array.empty_append] at hr
     have hcap:=grownCap_ge w m 0 e
     have hR:=fun own=>rows_fresh (w:=w.drew) (e:=e) (cap:=grownCap w m 0 e) (zs:=Builtin.zeroCells zv.cells (grownCap w m 0 e-m)) hsz hxs (by omega) (by rw [hxm];exact hzeros _ _) own
     obtain ⟨h1,h2⟩:=alloc_sound h.drew (.rows false i.size xs) ⟨⟨w.heap.size,0,grownCap w m 0 e,i.size⟩,fun _=>⟨0,0,0,0⟩⟩ ((vals xs).toArray++Builtin.zeroCells zv.cells (grownCap w m 0 e-m)) e
      (fun b hb=>hb.2) (fun b hb=>hb) (hR true)
     refine ⟨_,_,by simpa using hr,_,_,_,_,h1,by simp,?_,h2,hK⟩
     refine ⟨by simp,.inr ⟨_,grownCap w m 0 e,rfl,hcap,by simp,?_,?_,fun _=>?_⟩⟩ <;> rw [upd_self] <;> simp [ILoc.at]
 · rename_i r o n c nn
   obtain ⟨hrN,hh⟩:=hs
   rw [nth_eq] at ha
   split at ha <;> try exact ha.elim
   rename_i sz rs hrs
   split at ha <;> try exact ha.elim
   rename_i hb
   have hb:=Nat.eq_of_beq_eq_true hb
   subst hb
   have hor:RowsAt w true i.size rs (L r).h:=h.obj r _ hrs
   obtain ⟨osz,_,ocap,oown,ocell⟩:=hor
   rcases ha with ⟨rfl,hnr,h47,h63,hK⟩ | hB
   · -- a longer one
     rw [killHK_eq,setK_eq,hxm] at hK
     rw [hxm] at h47 h63
     have hrsl:∀ q∈rs,q.length=i.size:=fun q hq=>by
      obtain ⟨j,hj⟩:=List.mem_iff_getElem?.1 hq
      exact (ocell j q hj).1
     have hall:∀ q∈rs++xs,q.length=i.size:=fun q hq=>by
      rcases List.mem_append.1 hq with hq | hq
      · exact hrsl q hq
      · exact hxs q hq
     have hvl:=vals_length hrsl
     obtain ⟨_,hvl2,hvc⟩:=RowsAt.vals (w:=w) (own:=true) (h:=(L r).h) (rs:=rs) ⟨osz,hsz,ocap,oown,ocell⟩ 0 rs.length (by omega)
     simp only [List.drop_zero,List.take_length] at hvl2 hvc
     -- whatever world it comes to
     have fin:∀ (rv:Value) (w':World) (l':ILoc),Bel (fun k=>k<w.heap.size∧¬((L r).h.cap≠0∧k=(L r).h.blk)) w w'→(l'.cap≠0→l'.blk<w'.heap.size∧(w.heap.size≤l'.blk∨(L r).h.cap≠0∧l'.blk=(L r).h.blk)) →
      RowsAt w' true i.size (rs++xs) l'→Hdr l' 0 (n+m) none nn rv→Left B R w0 H.length L K rv w':=by
      intro rv w' l' k1 k2 k3 k4
      obtain ⟨h1,h2⟩:=move_sound h hrs l' k1 k2 k3
      refine ⟨_,_,_,_,h1,by simp,?_,h2,hK⟩
      refine ⟨by simpa using hrN,?_⟩
      rw [upd_self]
      exact k4
     have out:∀ k,((n=0∧k=0∧v=.slice none 0 0)∨∃ b,v=.slice (some b) n k∧∀ (j:Nat) (z:Value),(vals rs)[j]? = some z→w.cell? (b.add j)=some z)→k<n+m →
      ∃ rv w',(Builtin.append_ [t,u'].toArray ty #[v,u]).run P w=.ok rv w'∧Left B R w0 H.length L K rv w':=by
      intro k hv hlt
      have hr:=run_append_out (P:=P) (w:=w) (ty:=ty) (os:=vals rs) ht hi hzv hv (by rw [hvl,hnr]) hxv (by simpa using hxl) hlt h47 h63
      have hcap:=grownCap_ge w (n+m) k e
      have hva:(vals rs).toArray++(vals xs).toArray=(vals (rs++xs)).toArray:=by simp [vals]
      rw [hva] at hr
      have hR:=rows_fresh (w:=w.drew) (e:=e) (cap:=grownCap w (n+m) k e) (zs:=Builtin.zeroCells zv.cells (grownCap w (n+m) k e-(n+m))) hsz hall (by simp;omega) (by rw [hzeros];simp;congr 1;omega) true
      refine ⟨_,_,by simpa using hr,fin _ _ ⟨w.heap.size,0,grownCap w (n+m) k e,i.size⟩ ?_ (fun _=>⟨by simp,.inl (Nat.le_refl _)⟩) hR (.inr ⟨_,_,rfl,hcap,by simp,by simp,by simp,fun _=>by simp [ILoc.at]⟩)⟩
      exact ((Bel.refl _ w).drew).trans ⟨rfl,rfl,rfl,by simp,fun q hq=>heap_alloc_lt _ _ _ (by simpa using hq.1)⟩
     rcases hh with ⟨hnn,hn0,hv,_⟩ | ⟨a,k,hv,hnk,_,hok,hoc,hat⟩
     · -- it was nil
       subst hn0
       rcases Nat.eq_zero_or_pos m with hm | hm
       · subst hm
         have hx0:xs=[]:=List.length_eq_zero_iff.1 hxm
         have hr0:rs=[]:=List.length_eq_zero_iff.1 (by omega)
         subst hx0;subst hr0;subst hv
         refine ⟨_,w,run_append_in (a:=none) ht hi hxv (by simpa using hxl) (by omega) (fun a0 ha0=>by cases ha0) (fun _=>rfl),fin _ w ⟨0,0,0,i.size⟩ (Bel.refl _ _) (fun hc=>absurd rfl hc) ⟨rfl,hsz,Nat.le_refl _,fun _ hc=>absurd rfl hc,fun i r hi=>by simp at hi⟩ (.inl ⟨hnn,rfl,rfl,by simp⟩)⟩
       · exact out 0 (.inl ⟨rfl,rfl,hv⟩) (by omega)
     · rcases Nat.lt_or_ge k (n+m) with hlt | hge
       · refine out k (.inr ⟨a,hv,fun j z hj=>?_⟩) hlt
         have:j<n*i.size:=by have:=(List.getElem?_eq_some_iff.1 hj).1;rw [hvl,←hnr] at this;exact this
         have hn0:n≠0:=fun e=>by subst e;simp at this
         rw [hat (by omega)]
         exact hvc j z hj
       · -- there is room
         subst hv
         rcases Nat.eq_zero_or_pos m with hm | hm
         · subst hm
           have hx0:xs=[]:=List.length_eq_zero_iff.1 hxm
           subst hx0
           refine ⟨_,w,run_append_in (a:=some a) ht hi hxv (by simpa using hxl) (by omega) (fun a0 _=>by simp [vals,storeCells]) (fun ha0=>by cases ha0),fin _ w ⟨(L r).h.blk,(L r).h.base,k,i.size⟩ (Bel.refl _ _)
            (fun hk=>⟨(h.own r _ _ hrs ⟨by simp at hk;omega,rfl⟩).2.1,.inr ⟨by simp at hk;omega,rfl⟩⟩)
            ⟨rfl,hsz,by simp;omega,fun _ hk=>by
             obtain ⟨hb0,q,hq,hcc⟩:=oown rfl (by simp at hk;omega)
             exact ⟨hb0,q,Nat.le_trans (Nat.mul_le_mul_right _ (by simp;omega)) hq,hcc⟩,fun j q hq=>by
             have:=ocell j q (by simpa using hq)
             simpa [ILoc.at,osz] using this⟩ (.inr ⟨a,k,rfl,by omega,by simp,by simp,by simp,fun hk=>by rw [hat hk];simp [ILoc.at,osz]⟩)⟩
         · have hk0:k≠0:=by omega
           have hcap0:(L r).h.cap≠0:=by omega
           obtain ⟨hb0,q,hq,cc,ct,cfr,hblk,hcs,hfr⟩:=oown rfl hcap0
           have ha:=hat hk0
           have hkq:k*i.size≤q:=Nat.le_trans (Nat.mul_le_mul_right _ (by omega)) hq
           have hfit:n*i.size+(vals xs).length≤q:=by
            rw [hxl,←Nat.add_mul];exact Nat.le_trans (Nat.mul_le_mul_right _ hge) hkq
           obtain ⟨w',c',hrun,hbel,hkk,hzz,hb',hc',hout,hin⟩:=run_storeCells' (P:=P) (a:=⟨(L r).h.blk,n*i.size,none⟩) rfl (vals xs) w cc 0 hblk (by simpa [hcs] using hfit) hfr vals_one
           have haa:a.add (n*i.size) = ⟨(L r).h.blk,n*i.size,none⟩:=by rw [ha,Addr.add_none _ _ rfl];simp [ILoc.at,hb0]
           refine ⟨_,w',run_append_in (a:=some a) ht hi hxv (by simpa using hxl) hge (fun a0 ha0=>by cases ha0;rw [haa];exact hrun) (fun ha0=>by cases ha0),fin _ w' ⟨(L r).h.blk,0,k,i.size⟩
            ⟨hbel.os,hbel.tape,hbel.output,hbel.size,fun b hb=>hbel.block b fun e=>hb.2 ⟨hcap0,e⟩⟩ (fun _=>⟨Nat.lt_of_lt_of_le (h.own r _ _ hrs ⟨hcap0,rfl⟩).2.1 (by omega),.inr ⟨hcap0,rfl⟩⟩) ?_
            (.inr ⟨a,k,rfl,hge,by simp,by simp,by simp,fun _=>by rw [ha];simp [ILoc.at,hb0]⟩)⟩
           refine rows_of_cells hb' (by rw [hc',hcs]) (by rw [hc'];exact hfr) hsz (by simp;omega) hkq hall (fun j z hj=>?_) true
           have hva:vals (rs++xs)=vals rs++vals xs:=by simp [vals]
           rw [hva] at hj
           rcases Nat.lt_or_ge j (vals rs).length with hjl | hjl
           · rw [List.getElem?_append_left hjl] at hj
             have:=hvc j z hj
             rw [Addr.add_none _ _ rfl] at this
             simp only [World.cell?,ILoc.at,hb0,hblk] at this
             rw [hout j (by left;rw [hvl,←hnr] at hjl;simpa using hjl)]
             simpa using this
           · rw [List.getElem?_append_right hjl] at hj
             have:=hin _ z hj
             rw [hvl,←hnr] at this hjl
             simp only [Nat.add_zero] at this
             rwa [show n*i.size+(j-n*i.size)=j by omega] at this
   cases c with
   | some c' =>
     -- no room: a new one
     obtain ⟨rfl,h0x,hle,h47,h63,hK⟩:=hB
     have hK:=snocK_spec hK
     rw [hxm] at h0x h47 h63 hK
     have hrsl:∀ q∈rs,q.length=i.size:=fun q hq=>by
      obtain ⟨j,hj⟩:=List.mem_iff_getElem?.1 hq
      exact (ocell j q hj).1
     obtain ⟨hps,hvl2,hvc⟩:=RowsAt.vals (w:=w) (own:=true) (h:=(L r).h) (rs:=rs) ⟨osz,hsz,ocap,oown,ocell⟩ o c' hle
     have hall:∀ q∈(rs.drop o).take c'++xs,q.length=i.size:=fun q hq=>by
      rcases List.mem_append.1 hq with hq | hq
      · exact hps q hq
      · exact hxs q hq
     have hlen:((rs.drop o).take c').length=c':=by rw [List.length_take,List.length_drop];omega
     have hv:∃ k,k<c'+m∧((c'=0∧k=0∧v=.slice none 0 0)∨∃ b,v=.slice (some b) c' k∧∀ (j:Nat) (z:Value),(vals ((rs.drop o).take c'))[j]? = some z→w.cell? (b.add j)=some z):=by
      rcases hh with ⟨_,hn0,hv,_⟩ | ⟨a,k,hv,hnk,hkc,hok,hoc,hat⟩
      · exact ⟨0,by omega,.inl ⟨hn0,rfl,hv⟩⟩
      · refine ⟨k,by have:=hkc c' rfl;omega,.inr ⟨a,hv,fun j z hj=>?_⟩⟩
        have hj2:j<c'*i.size:=by have:=(List.getElem?_eq_some_iff.1 hj).1;rw [hvl2] at this;exact this
        have hc0:c'≠0:=fun e=>by subst e;simp at hj2
        rw [hat (by omega)]
        exact hvc j z hj
     obtain ⟨k,hlt,hv⟩:=hv
     have hr:=run_append_out (P:=P) (w:=w) (ty:=ty) (os:=vals ((rs.drop o).take c')) ht hi hzv hv (by rw [hvl2]) hxv (by simpa using hxl) hlt h47 h63
     have hcap:=grownCap_ge w (c'+m) k e
     have hva:(vals ((rs.drop o).take c')).toArray++(vals xs).toArray=(vals ((rs.drop o).take c'++xs)).toArray:=by simp [vals]
     rw [hva] at hr
     have hR:=rows_fresh (w:=w.drew) (e:=e) (cap:=grownCap w (c'+m) k e) (zs:=Builtin.zeroCells zv.cells (grownCap w (c'+m) k e-(c'+m))) hsz hall (by simp only [List.length_append,hlen];omega) (by rw [hzeros];simp only [List.length_append,hlen];congr 1;omega) true
     obtain ⟨h1,h2⟩:=alloc_sound h.drew (.rows false i.size ((rs.drop o).take c'++xs)) ⟨⟨w.heap.size,0,grownCap w (c'+m) k e,i.size⟩,fun _=>⟨0,0,0,0⟩⟩ ((vals ((rs.drop o).take c'++xs)).toArray++Builtin.zeroCells zv.cells (grownCap w (c'+m) k e-(c'+m))) e
      (fun b hb=>hb.2) (fun b hb=>hb) hR
     refine ⟨_,_,by simpa using hr,_,_,_,_,h1,by simp,?_,h2,hK⟩
     refine ⟨by simp,.inr ⟨_,grownCap w (c'+m) k e,rfl,hcap,by simp,?_,?_,fun _=>?_⟩⟩ <;> rw [upd_self] <;> simp [ILoc.at]
   | none =>
     -- within what it has
     obtain ⟨_,rfl,hle,hK⟩:=hB
     rw [setK_eq,hxm] at hK
     rw [hxm] at hle
     rcases hh with ⟨hnn,_⟩ | ⟨a,k,hv,hnk,_,hok,hoc,hat⟩
     · cases hnn
     subst hv
     have hk:=hoc rfl
     have hrsl:∀ q∈rs,q.length=i.size:=fun q hq=>by
      obtain ⟨j,hj⟩:=List.mem_iff_getElem?.1 hq
      exact (ocell j q hj).1
     rcases Nat.eq_zero_or_pos m with hm | hm
     · subst hm
       have hx0:xs=[]:=List.length_eq_zero_iff.1 hxm
       subst hx0
       have hset:H.set r (.rows false i.size (rs.take (o+n)++[]++rs.drop (o+n+0)))=H:=List.ext_getElem? fun j=>by
        by_cases hj:j=r
        · subst hj;rw [List.getElem?_set_self (List.getElem?_eq_some_iff.1 hrs).1,hrs];simp
        · rw [List.getElem?_set_ne (Ne.symm hj)]
       rw [hset] at hK
       refine ⟨_,w,run_append_in (a:=some a) ht hi hxv (by simpa using hxl) (by omega) (fun a0 _=>by simp [vals,storeCells]) (fun ha0=>by cases ha0),L,_,_,_,Agree.refl _ _ _,Nat.le_refl _,?_,h,hK⟩
       exact ⟨hrN,.inr ⟨a,k,rfl,by omega,by simp,hok,hoc,hat⟩⟩
     · have hk0:k≠0:=by omega
       have hcap0:(L r).h.cap≠0:=by omega
       obtain ⟨hb0,q,hq,hcc⟩:=oown rfl hcap0
       have ha:=hat hk0
       have hfit:(o+n)*i.size+(vals xs).length≤q:=by
        rw [hxl,←Nat.add_mul];exact Nat.le_trans (Nat.mul_le_mul_right _ (by omega)) hq
       obtain ⟨w',hrun,hrel⟩:=store_cells (P:=P) h hrs (o':=.rows false i.size (rs.take (o+n)++xs++rs.drop (o+n+m))) (b:=(L r).h.blk) (off:=(o+n)*i.size) (n:=q) ⟨hcap0,rfl⟩ (fun _=>Iff.rfl) (fun _=>Iff.rfl) hcc (vals xs) vals_one hfit
        (fun w' hk' hcc' hout hin=>by
          refine ⟨osz,hsz,by simp;omega,fun _ _=>⟨hb0,q,hq,hcc'⟩,fun j p hp=>?_⟩
          have hat':∀ i' g,(L r).h.at i' g = ⟨(L r).h.blk,i'*i.size+g,none⟩:=fun i' g=>by simp [ILoc.at,hb0,osz]
          have hp':(j<o+n∨o+n+m≤j)∧rs[j]? = some p∨(o+n≤j∧j<o+n+m)∧xs[j-(o+n)]? = some p:=by
           rw [List.append_assoc] at hp
           rcases Nat.lt_or_ge j (o+n) with hj | hj
           · rw [List.getElem?_append_left (by simp;omega),List.getElem?_take,if_pos hj] at hp
             exact .inl ⟨.inl hj,hp⟩
           · rw [List.getElem?_append_right (by simp;omega)] at hp
             simp only [List.length_take,Nat.min_eq_left (show o+n≤rs.length by omega)] at hp
             rcases Nat.lt_or_ge j (o+n+m) with hj2 | hj2
             · rw [List.getElem?_append_left (by omega)] at hp
               exact .inr ⟨⟨hj,hj2⟩,hp⟩
             · rw [List.getElem?_append_right (by omega),List.getElem?_drop,hxm,show o+n+m+(j-(o+n)-m)=j by omega] at hp
               exact .inl ⟨.inr hj2,hp⟩
          rcases hp' with ⟨hj,hp'⟩ | ⟨hj,hp'⟩
          · refine ⟨(ocell j p hp').1,fun f x hf=>?_⟩
            have hfl:f<i.size:=by have:=(List.getElem?_eq_some_iff.1 hf).1;rw [(ocell j p hp').1] at this;exact this
            have h1:=(ocell j p hp').2 f x hf
            rw [hat'] at h1 ⊢
            rw [hout _ ?_,h1]
            rw [hxl]
            rcases hj with hj | hj
            · left
              have:(j+1)*i.size≤(o+n)*i.size:=Nat.mul_le_mul_right _ hj
              rw [Nat.add_mul] at this;omega
            · right
              have:(o+n+m)*i.size≤j*i.size:=Nat.mul_le_mul_right _ hj
              rw [Nat.add_mul] at this;omega
          · refine ⟨hxs p (List.mem_of_getElem? hp'),fun f x hf=>?_⟩
            have:=hin _ _ (flat_get hxs hp' hf)
            rw [hat']
            rw [←this]
            congr 2
            rw [←Nat.add_assoc,←Nat.add_mul]
            congr 2;omega)
       have haa:a.add (n*i.size) = ⟨(L r).h.blk,(o+n)*i.size,none⟩:=by rw [ha,Addr.add_none _ _ rfl];simp [ILoc.at,hb0,osz,Nat.add_mul]
       refine ⟨_,w',run_append_in (a:=some a) ht hi hxv (by simpa using hxl) (by omega) (fun a0 ha0=>by cases ha0;rw [haa];exact hrun) (fun ha0=>by cases ha0),L,_,_,_,Agree.refl _ _ _,by simp,?_,hrel,hK⟩
       exact ⟨by simpa using hrN,.inr ⟨a,k,rfl,by omega,by simp,hok,hoc,hat⟩⟩

theorem reps_length {α : Type} (z:List α):∀ n,(reps n z).length=n*z.length
 | 0=>by simp [reps]
 | n+1=>by simp [reps,reps_length z n,Nat.add_mul];omega

theorem reps_get {α : Type} (z:List α):∀ n j,j<n*z.length→(reps n z)[j]? = z[j % z.length]?
 | 0,j,h=>by simp at h
 | n+1,j,h=>by
   simp only [reps]
   rw [Nat.add_mul] at h
   rcases Nat.lt_or_ge j z.length with hj | hj
   · rw [List.getElem?_append_left hj,Nat.mod_eq_of_lt hj]
   · rw [List.getElem?_append_right hj,reps_get z n _ (by omega),Nat.mod_eq_sub_mod hj]

theorem madeCells_get {z:Array Value} {n j:Nat} (hz:0<z.size) (h:j<n):(madeCells z n)[j]? = z[j % z.size]?:=by
 have hm:j % z.size<z.size:=Nat.mod_lt _ hz
 simp [madeCells,h,hm]

theorem chopK_spec {sz:Nat}:∀ {n:Nat} {l:List FC} {k:List (List FC)→Prop},chopK sz n l k→l.length=n*sz→∃ rs,k rs∧rs.length=n∧(∀ r∈rs,r.length=sz)∧rs.flatten=l
 | 0,l,k,h,hl=>⟨[],h,rfl,by simp,by simp at hl;simp [hl]⟩
 | n+1,l,k,h,hl=>by
   simp only [chopK] at h
   obtain ⟨_,h⟩:=takeK_spec _ _ _ _ h
   rw [Nat.add_mul] at hl
   obtain ⟨rs,h1,h2,h3,h4⟩:=chopK_spec h (by simp;omega)
   simp only [List.drop_zero] at h1
   refine ⟨_,h1,by simp [h2],fun r hr=>?_,by simp [h4]⟩
   rcases List.mem_cons.1 hr with rfl | hr
   · simp;omega
   · exact h3 r hr

theorem new_rows (h:Rel B R w0 L H w) {sz n cap:Nat} {rs:List (List FC)} {c:Array Value} {e:TypeId} (hsz:0<sz) (hs:∀ r∈rs,r.length=sz) (hl:rs.length=n) (hcap:n≤cap) (hc:c.size=cap*sz)
 (hg:∀ (j:Nat) (v:Value),(vals rs)[j]? = some v→c[j]? = some v) {K:KP} (hK:K (cv (.slc H.length 0 n none true)) [] (H++[.rows false sz rs])) :
 Left B R w0 H.length L K (.slice (some ⟨w.heap.size,0,none⟩) n cap) (w.alloc (.cells c e)):=by
 have hR:=rows_of_cells (w:=w.alloc (.cells c e)) (heap_alloc_eq w _) hc (by simp) hsz (by omega) (Nat.le_refl _) hs hg true
 obtain ⟨h1,h2⟩:=alloc_sound h (.rows false sz rs) ⟨⟨w.heap.size,0,cap,sz⟩,fun _=>⟨0,0,0,0⟩⟩ c e (fun b hb=>hb.2) (fun b hb=>hb) hR
 refine ⟨_,_,[],_,h1,by simp,?_,h2,hK⟩
 refine ⟨by simp,.inr ⟨_,cap,rfl,hcap,by simp,?_,?_,fun _=>?_⟩⟩ <;> rw [upd_self] <;> simp [ILoc.at]

theorem makeSlice_sound (h:Rel B R w0 L H w) {t:TypeId} {p q:AV} {v u:Value} (hp:VA H.length L p v) (hq:VA H.length L q u) {K:KP} (hs:makeSliceA P H t p q fun v H'=>K v [] H') :
 ∃ r w',(Instr.makeSlice t v u).run P w=.ok r w'∧Left B R w0 H.length L K r w':=by
 unfold makeSliceA at hs
 split at hs <;> try exact hs.elim
 rename_i kl l kc c
 obtain rfl:=hp
 obtain rfl:=hq
 split at hs <;> try exact hs.elim
 rename_i e he
 split at hs <;> try exact hs.elim
 rename_i i z hi hz
 simp only [cond_eq_ite,Bool.and_eq_true] at hs
 split at hs <;> try exact hs.elim
 rename_i hc
 have hsz:0<i.size:=by simpa [Nat.blt_eq] using hc.1
 have hzl:=lenIs_spec _ _ hc.2
 split at hs
 rotate_left
 · split at hs <;> try exact hs.elim
   rename_i e2 he2 _
   split at hs <;> try exact hs.elim
   rename_i hc2
   have hi1:i.size=1:=Nat.eq_of_beq_eq_true hc2.1
   have he0:0<szOf P e2:=by simpa [Nat.blt_eq] using hc2.2
   obtain ⟨h0,h1,h2,h3,hK⟩:=hs
   have hK:=snocK_spec hK
   obtain ⟨zv,hzv,hzr⟩:=zero_spec (N:=H.length) (L:=L) hi hz
   obtain rfl:zv=.slice none 0 0:=hzr
   refine ⟨_,_,run_make w t e i _ (elemT_spec he) hi hzv kl kc l c h0 h1 h2 h3,?_⟩
   have hlc:l.toNat≤c.toNat:=by omega
   have hrep:∀ (j:Nat) (p:ILoc×List (List FC)),(List.replicate l.toNat (some ((⟨0,0,0,szOf P e2⟩ : ILoc),([]:List (List FC)))))[j]? = some (some p)→p=(⟨0,0,0,szOf P e2⟩,[])∧j<l.toNat:=fun j p hj=>by
    have:=List.mem_of_getElem? hj
    have h9:=(List.getElem?_eq_some_iff.1 hj).1
    exact ⟨Option.some.inj (List.eq_of_mem_replicate this),by simpa using h9⟩
   obtain ⟨a1,a2⟩:=alloc_sound (fr:=(0,0)) h (.rows3 true (szOf P e2) (List.replicate l.toNat (some (⟨0,0,0,szOf P e2⟩,[])))) ⟨⟨w.heap.size,0,c.toNat,1⟩,fun _=>⟨0,0,0,0⟩⟩ (madeCells (Value.slice none 0 0).cells (c.toNat*i.size)) e
    (fun b hb=>by
      rcases hb with hb | ⟨j,p,hj,hc,_⟩
      · exact hb.2
      · rw [(hrep j p hj).1] at hc
        exact absurd rfl hc) (fun b hb=>hb) (by
      refine ⟨rfl,by simpa using hlc,fun _=>by
       exact ⟨rfl,c.toNat*i.size,by rw [hi1,Nat.mul_one];exact Nat.le_refl _,_,_,_,heap_alloc_eq w _,size_madeCells _ _,fun i _ h9=>absurd h9.2 (Nat.not_lt_zero _)⟩,fun j p hj=>?_⟩
      obtain ⟨rfl,hjl⟩:=hrep j p hj
      refine ⟨⟨rfl,he0,Nat.le_refl _,fun _ hc=>absurd rfl hc,fun i r hi=>by simp at hi⟩,⟨.slice none 0 0,?_,.inl ⟨rfl,rfl,rfl,by simp⟩⟩,fun hc=>absurd rfl hc⟩
      have hm:=madeCells_get (z:=(Value.slice none 0 0).cells) (n:=c.toNat*i.size) (j:=j) (by decide) (by rw [hi1];omega)
      have hcz:(Value.slice none 0 0).cells.size=1:=rfl
      rw [hcz,Nat.mod_one] at hm
      simp only [World.cell?,ILoc.at,Nat.zero_add,Nat.mul_one,Nat.add_zero,heap_alloc_eq]
      rw [hm]
      rfl)
   refine ⟨_,_,[],_,a1,by simp,?_,a2,hK⟩
   refine ⟨by simp,.inr ⟨_,c.toNat,rfl,hlc,by simp,?_,?_,fun _=>?_⟩⟩ <;> rw [upd_self] <;> simp [ILoc.at]
 rename_i zf hzf
 obtain ⟨h0,h1,h2,h3,hK⟩:=hs
 have hK:=snocK_spec hK
 obtain ⟨zv,hzv,hzr⟩:=zero_spec (N:=H.length) (L:=L) hi hz
 have hzc:=VP.cells hzr
 rw [fcs_spec hzf] at hzc hzl
 have hzc:=VCs_f hzc
 have hzs:zv.cells.size=i.size:=by rw [←hzl];simpa using congrArg List.length hzc
 refine ⟨_,_,run_make w t e i zv (elemT_spec he) hi hzv kl kc l c h0 h1 h2 h3,new_rows h hsz (fun r hr=>?_) (by simp) (by omega) (size_madeCells _ _) (fun j x hj=>?_) hK⟩
 · rw [List.eq_of_mem_replicate hr];simpa using hzl
 · have hall:∀ r∈List.replicate l.toNat zf,r.length=i.size:=fun r hr=>by rw [List.eq_of_mem_replicate hr];simpa using hzl
   have hlen:=vals_length hall
   have hjl:j<l.toNat*i.size:=by have:=(List.getElem?_eq_some_iff.1 hj).1;rw [hlen] at this;simpa using this
   obtain ⟨a,f,r,y,rfl,hf,ha,hr,rfl⟩:=vals_get hall hsz hj
   have hlt:a*i.size+f<c.toNat*i.size:=Nat.lt_of_lt_of_le hjl (Nat.mul_le_mul_right _ (by omega))
   rw [madeCells_get (by omega) hlt,hzs,Nat.mul_comm,Nat.mul_add_mod,Nat.mod_eq_of_lt hf]
   have hrz:r=zf:=List.eq_of_mem_replicate (List.mem_of_getElem? ha)
   subst hrz
   have:=congrArg (·[f]?) hzc
   simp only [List.getElem?_map,hr,Array.getElem?_toList] at this
   exact this

theorem buildSlice_sound (h:Rel B R w0 L H w) {t:TypeId} {n:Nat} {parts:List (Nat×AV)} {vparts:Array (Nat×Value)} (h1:parts.map (·.1)=vparts.toList.map (·.1)) (h2:VAs H.length L (parts.map (·.2)) (vparts.toList.map (·.2)))
 {K:KP} (hs:buildSliceA P H t n parts fun v H'=>K v [] H'):∃ r w',(Instr.buildSlice t n vparts).run P w=.ok r w'∧Left B R w0 H.length L K r w':=by
 unfold buildSliceA at hs
 split at hs <;> try exact hs.elim
 rename_i e he
 split at hs <;> try exact hs.elim
 rename_i z hz
 simp only [cond_eq_ite,Bool.and_eq_true] at hs
 split at hs <;> try exact hs.elim
 rename_i hc
 obtain ⟨⟨⟨hinfo,hpos⟩,hmax⟩,hzl⟩:=hc
 have hpos:0<szOf P e:=by simpa [Nat.blt_eq] using hpos
 have hmax:n*szOf P e≤16777216:=Nat.le_of_ble_eq_true hmax
 have hzl:=lenIs_spec _ _ hzl
 obtain ⟨zv,hzr,hzv⟩:=zval_sound (N:=H.length) (L:=L) (w:=w) hz
 have hzc:=VP.cells hzv
 have hzs:zv.cells.size=szOf P e:=by rw [←hzl,hzc.length];simp
 have hbase:VCs H.length L (reps n (cellsOf z)) (madeCells zv.cells (n*szOf P e)).toList:=by
  refine VCs.of_get (by rw [reps_length,hzl];simp [size_madeCells]) fun i x v hx hv=>?_
  have hi:i<n*szOf P e:=by have:=(List.getElem?_eq_some_iff.1 hx).1;rwa [reps_length,hzl] at this
  rw [reps_get _ _ _ (by rw [hzl];exact hi),hzl] at hx
  rw [Array.getElem?_toList,madeCells_get (by omega) hi,hzs] at hv
  obtain ⟨v',hv',hvr⟩:=hzc.get hx
  rw [Array.getElem?_toList,hv] at hv'
  cases hv'
  exact hvr
 obtain ⟨cs,vcs,hf,hr,hK⟩:=fill_sound (N:=H.length) (L:=L) _ parts vparts.toList _ (madeCells zv.cells (n*szOf P e)) h1 h2 hbase hs
 split at hK <;> try exact hK.elim
 rename_i l hl
 rw [fcs_spec hl] at hr
 have hvl:=VCs_f hr
 have hfl:vcs.size=n*szOf P e:=by
  have hfold:∀ (off:Nat) (zs:List (Value×Nat)) (c:Array Value),(zs.foldl (fun cs (x:Value×Nat)=>cs.setIfInBounds (off+x.2) x.1) c).size=c.size:=by
   intro off zs
   induction zs with
   | nil=>intro c;rfl
   | cons a zs ih2=>intro c;rw [List.foldl_cons,ih2];simp
  have:∀ (place:Nat→Option (Nat×Nat)) (ps:List (Nat×Value)) (c c':Array Value),Instr.fill place c ps=some c'→c'.size=c.size:=by
   intro place ps
   induction ps with
   | nil=>intro c c' hh;simp [Instr.fill] at hh;rw [hh]
   | cons q ps ih =>
     intro c c' hh
     obtain ⟨i,v⟩:=q
     simp only [Instr.fill] at hh
     split at hh
     · cases hh
     · split at hh
       · cases hh
       · rw [ih _ _ hh]
         rw [←Array.foldl_toList]
         exact hfold _ _ _
  rw [this _ _ _ _ hf,size_madeCells]
 have hll:l.length=n*szOf P e:=by rw [←hfl];simpa using (congrArg List.length hvl).symm
 obtain ⟨rs,hK,hrl,hrs,hflat⟩:=chopK_spec hK hll
 have hK:=snocK_spec hK
 refine ⟨.slice (some ⟨w.heap.size,0,none⟩) n n,w.alloc (.cells vcs e),?_,new_rows h hpos hrs hrl (Nat.le_refl _) hfl (fun j v hj=>?_) hK⟩
 · have h24:¬(n*szOf P e > 2 ^ 24):=by omega
   simp only [Instr.buildSlice,Sem.run_bind,run_underlying_some (elemT_spec he),Result.andThen_ok,run_sizeOf_some hinfo,Sem.run_ite,if_neg h24]
   by_cases hn:n*szOf P e=0
   · have hz0:(madeCells #[] (n*szOf P e))=madeCells zv.cells (n*szOf P e):=by rw [hn];simp [madeCells]
     simp only [if_pos hn,Sem.run_pure,Result.andThen_ok]
     have hf':Instr.fill (fun i=>some (i*szOf P e,szOf P e)) ((Array.range (n*szOf P e)).map ((#[]:Array Value)[· % (#[]:Array Value).size]!)) vparts.toList=some vcs:=by
      rw [←hf,←hz0];rfl
     simp only [hf']
     rfl
   · simp only [if_neg hn,hzr,Result.andThen_ok,Sem.run_pure]
     have hf':Instr.fill (fun i=>some (i*szOf P e,szOf P e)) ((Array.range (n*szOf P e)).map (zv.cells[· % zv.cells.size]!)) vparts.toList=some vcs:=hf
     simp only [hf']
     rfl
 · have:vals rs=vcs.toList:=by rw [hvl,vals,hflat]
   rw [this] at hj
   simpa using hj

theorem capsOf_sound:∀ {xs:List AV} {l:List Nat} {vs:List Value},capsOf xs=some l→VAs N L xs vs→(∀ r∈l,r<N)∧vs=l.map fun r=>Value.pointer (some ((L r).h.at 0 0))
 | [],l,vs,h,hv=>by simp [capsOf] at h;subst h;simp [VAs] at hv;simp [hv]
 | x::xs,l,vs,h,⟨y,ys,h1,h2,h3⟩=>by
   unfold capsOf at h
   split at h
   · rename_i hx;cases hx
   · rename_i r xs' hx
     simp only [List.cons.injEq] at hx
     obtain ⟨rfl,rfl⟩:=hx
     split at h <;> simp at h
     rename_i l' hl'
     subst h
     obtain ⟨k1,k2⟩:=capsOf_sound hl' h3
     obtain ⟨h4,rfl⟩:=h2
     refine ⟨fun q hq=>?_,by rw [h1,k2];rfl⟩
     rcases List.mem_cons.1 hq with rfl | hq
     · exact h4
     · exact k1 q hq
   · cases h

end

end Go.Mac
