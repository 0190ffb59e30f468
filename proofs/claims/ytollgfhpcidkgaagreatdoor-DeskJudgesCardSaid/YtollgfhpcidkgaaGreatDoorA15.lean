/- Texts that belong together; the first of them:  -/
import Derived.Test.YtollgfhpcidkgaaGreatDoorA3
import Derived.Test.YtollgfhpcidkgaaGreatDoorA12
import Derived.Test.YtollgfhpcidkgaaGreatDoorA14
import Derived.Test.YtollgfhpcidkgaaGreatDoorA11
import Derived.Test.YtollgfhpcidkgaaGreatDoorA7
import Derived.Test.YtollgfhpcidkgaaGreatDoorA5
import Derived.RangeFuncLeaves
import Derived.Shelf.Abstract
import Derived.WalkKit
import Derived.OwnWalkIn
import Derived.TacticsInMore
import Derived.LoopNIn
import Derived.LoopIn
import Derived.Test.YtollgfhpcidkgaaGreatDoorA13

section
open Go Go.Proofs Go.Mac

namespace Go.Mac

section

variable {P:Program} {nt N0:Nat} {Q:QT}

end

theorem Does.row2 {P:Program} {f:FuncId} {a:AV} {args:List AV} {Hl:List PO} {K:AV→List Nat→List PO→Prop} {ro:Bool} {sz n i:Nat} {rss:List (List (List FC))} (rs:List (List FC)) (hi:rss[i]? = some rs) (_hn:rs.length=n)
   (h:Does P f (killA [0] a::cv (.slc 0 0 n none false)::args.map (killA [0])) (.rows true sz rs::Hl.map (killO [0])) fun x M H'=>match H' with
     | _::Hl'=>(ro || noRo Hl')=true∧K (killA [0] x) M (.rows2 ro sz rss::Hl'.map (killO [0]))
     | _=>False):Does P f (a::cv (.islc 0 i 0 n none false)::args) (.rows2 ro sz rss::Hl) K:=by
 refine ⟨h.fn,fun B R w0 L w vs hrel hvs=>?_⟩
 obtain ⟨v0,us0,rfl,hv0,v,us,rfl,⟨hlt,hh⟩,hus⟩:=hvs
 have hO:=hrel.obj 0 _ rfl
 have hilt:=(List.getElem?_eq_some_iff.1 hi).1
 have hlen:(PO.rows true sz rs::Hl.map (killO [0])).length=(PO.rows2 ro sz rss::Hl).length:=by simp
 have hag:Agree (PO.rows2 ro sz rss::Hl).length [0] L (upd L 0 ⟨(L 0).inn i,(L 0).inn⟩):=fun j _ hm=>upd_ne (by simpa using hm)
 have hown0:∀ b,Own (.rows2 ro sz rss) (L 0) b∨Ro (.rows2 ro sz rss) (L 0) b→b<w.heap.size:=fun b hb=>by
   rcases hb with hb | hb
   · exact (hrel.own 0 _ b rfl hb).2.1
   · exact hrel.size _ (hrel.sub _ (hrel.ro 0 _ b rfl hb))
 have hrel1:Rel (fun b=>B b∨(Own (.rows2 ro sz rss) (L 0) b∨Ro (.rows2 ro sz rss) (L 0) b)) (fun b=>R b∨(Own (.rows2 ro sz rss) (L 0) b∨Ro (.rows2 ro sz rss) (L 0) b)) w (upd L 0 ⟨(L 0).inn i,(L 0).inn⟩) (PO.rows true sz rs::Hl.map (killO [0])) w:=by
   refine ⟨Bel.refl _ _,fun k hk=>?_,fun j o hj=>?_,fun j o b hj hb=>?_,fun j o b hj hb=>?_,fun b hb=>?_⟩
   · rcases hk with hk | hk
     · exact hrel.size k hk
     · exact hown0 k hk
   · cases j with
     | zero =>
       simp at hj;subst hj
       obtain ⟨⟨g1,g2,g3,_,g5⟩,_⟩:=hO.2.2.2.1 i rs hi
       rw [upd_self]
       exact ⟨g1,g2,g3,fun hh=>by simp at hh,g5⟩
     | succ j =>
       simp only [List.getElem?_cons_succ,List.getElem?_map,Option.map_eq_some_iff] at hj
       obtain ⟨o0,ho0,rfl⟩:=hj
       rw [upd_ne (by omega),hlen]
       exact (hrel.obj (j+1) o0 (by simpa using ho0)).mono (Nat.le_refl _) hag fun _ _=>rfl
   · cases j with
     | zero=>simp at hj;subst hj;exact hb.elim
     | succ j =>
       simp only [List.getElem?_cons_succ,List.getElem?_map,Option.map_eq_some_iff] at hj
       obtain ⟨o0,ho0,rfl⟩:=hj
       rw [upd_ne (by omega),Own_kill] at hb
       obtain ⟨g1,g2,g3⟩:=hrel.own (j+1) o0 b (by simpa using ho0) hb
       refine ⟨fun hB=>?_,g2,fun j' o' hj' hb'=>?_⟩
       · rcases hB with hB | hB | hB
         · exact g1 hB
         · have:=g3 0 _ rfl hB;omega
         · exact g1 (hrel.sub _ (hrel.ro 0 _ b rfl hB))
       · cases j' with
         | zero=>simp at hj';subst hj';exact hb'.elim
         | succ j' =>
           simp only [List.getElem?_cons_succ,List.getElem?_map,Option.map_eq_some_iff] at hj'
           obtain ⟨o1,ho1,rfl⟩:=hj'
           rw [upd_ne (by omega),Own_kill] at hb'
           exact g3 (j'+1) o1 (by simpa using ho1) hb'
   · cases j with
     | zero =>
       simp at hj;subst hj
       rw [upd_self] at hb
       right
       cases ro
       · exact .inl (.inr ⟨i,hilt,hb.1,hb.2⟩)
       · exact .inr (.inr ⟨i,hilt,hb.1,hb.2⟩)
     | succ j =>
       simp only [List.getElem?_cons_succ,List.getElem?_map,Option.map_eq_some_iff] at hj
       obtain ⟨o0,ho0,rfl⟩:=hj
       rw [upd_ne (by omega),Ro_kill] at hb
       exact .inl (hrel.ro (j+1) o0 b (by simpa using ho0) hb)
   · rcases hb with hb | hb
     · exact .inl (hrel.sub b hb)
     · exact .inr hb
 refine (h.run _ _ w _ w (v0::v::us) hrel1 ⟨v0,_,rfl,by rw [hlen];exact hv0.mono (Nat.le_refl _) hag,v,us,rfl,⟨by simp,by rw [upd_self];exact hh⟩,by rw [hlen];exact VAs.mono (Nat.le_refl _) hag hus⟩).mono ?_
 rintro e w' ⟨u,he,L2,x,M,H',k1,k2,k3,k4,k5⟩
 cases H' with
 | nil=>simp at k2
 | cons o' Hl' =>
 obtain ⟨hro,k5⟩:=k5
 have hag2:Agree (o'::Hl').length [0] L2 (upd L2 0 (L 0)):=fun j _ hm=>upd_ne (by simpa using hm)
 have hag3:Agree (PO.rows2 ro sz rss::Hl).length M L (upd L2 0 (L 0)):=fun j hj hm=>by
   by_cases h0:j=0
   · subst h0;rw [upd_self]
   · rw [upd_ne h0,k1 j (by rw [hlen];exact hj) hm,upd_ne h0]
 have hlen2:(PO.rows2 ro sz rss::Hl'.map (killO [0])).length=(o'::Hl').length:=by simp
 refine ⟨u,he,upd L2 0 (L 0),killA [0] x,M,_,hag3,by rw [hlen] at k2;rw [hlen2];exact k2,by rw [hlen2];exact k3.mono (Nat.le_refl _) hag2,?_,k5⟩
 have hbel:Bel B w w':=⟨k4.below.os,k4.below.tape,k4.below.output,k4.below.size,fun k hk=>k4.below.block k (.inl hk)⟩
 refine ⟨hrel.below.trans hbel,hrel.start,fun j o hj=>?_,fun j o b hj hb=>?_,fun j o b hj hb=>?_,hrel.sub⟩
 · cases j with
   | zero =>
     simp at hj;subst hj
     rw [upd_self]
     exact (hrel.obj 0 _ rfl).mono (M:=M) (by rw [hlen] at k2;rw [hlen2];exact k2) hag3 fun b hb=>k4.below.block b (.inr hb)
   | succ j =>
     simp only [List.getElem?_cons_succ,List.getElem?_map,Option.map_eq_some_iff] at hj
     obtain ⟨o0,ho0,rfl⟩:=hj
     rw [upd_ne (by omega),hlen2]
     exact (k4.obj (j+1) o0 (by simpa using ho0)).mono (Nat.le_refl _) hag2 fun _ _=>rfl
 · cases j with
   | zero =>
     simp at hj;subst hj
     rw [upd_self] at hb
     obtain ⟨g1,g2,_⟩:=hrel.own 0 _ b rfl hb
     refine ⟨g1,Nat.lt_of_lt_of_le g2 hbel.size,fun j' o1 hj' hb'=>?_⟩
     cases j' with
     | zero=>rfl
     | succ j' =>
       simp only [List.getElem?_cons_succ,List.getElem?_map,Option.map_eq_some_iff] at hj'
       obtain ⟨o0,ho0,rfl⟩:=hj'
       rw [upd_ne (by omega),Own_kill] at hb'
       exact absurd (.inr (.inl hb)) (k4.own (j'+1) o0 b (by simpa using ho0) hb').1
   | succ j =>
     simp only [List.getElem?_cons_succ,List.getElem?_map,Option.map_eq_some_iff] at hj
     obtain ⟨o0,ho0,rfl⟩:=hj
     rw [upd_ne (by omega),Own_kill] at hb
     obtain ⟨g1,g2,g3⟩:=k4.own (j+1) o0 b (by simpa using ho0) hb
     refine ⟨fun hB=>g1 (.inl hB),g2,fun j' o1 hj' hb'=>?_⟩
     cases j' with
     | zero =>
       simp at hj';subst hj'
       rw [upd_self] at hb'
       exact absurd (.inr (.inl hb')) g1
     | succ j' =>
       simp only [List.getElem?_cons_succ,List.getElem?_map,Option.map_eq_some_iff] at hj'
       obtain ⟨o2,ho2,rfl⟩:=hj'
       rw [upd_ne (by omega),Own_kill] at hb'
       exact g3 (j'+1) o2 (by simpa using ho2) hb'
 · cases j with
   | zero =>
     simp at hj;subst hj
     rw [upd_self] at hb
     exact hrel.ro 0 _ b rfl hb
   | succ j =>
     simp only [List.getElem?_cons_succ,List.getElem?_map,Option.map_eq_some_iff] at hj
     obtain ⟨o0,ho0,rfl⟩:=hj
     rw [upd_ne (by omega),Ro_kill] at hb
     cases ro with
     | false =>
       simp only [Bool.false_or] at hro
       exact absurd hb (noRo_spec hro j o0 _ b ho0)
     | true =>
       rcases k4.ro (j+1) o0 b (by simpa using ho0) hb with hb | hb | hb
       · exact hb
       · exact hb.elim
       · exact hrel.ro 0 _ b rfl hb

end Go.Mac
end

section
open Go Go.Proofs Go.Mac
set_option maxRecDepth 100000

namespace Go.Mac

abbrev callsH (ro:Bool) (ls:List (List CallZ)):PO:=.rows2 ro 2 (ls.map fun l=>l.map rowCallZ)

section

variable {K:AV→List Nat→List PO→Prop}

end

end Go.Mac
end

section
open Go Go.Proofs Go.Mac
set_option maxRecDepth 100000

namespace Go.Mac

section

variable {K:AV→List Nat→List PO→Prop}

end

end Go.Mac
end

section
open Go Go.Proofs Go.Mac
set_option maxRecDepth 100000

namespace Go.Mac

theorem sweep_inv {P:MZ→Prop} (hs:∀ m (t:Nat),P m→canZ m t=true→m.k<20000→P (stepZ m t).2) {m:MZ} (h:P m):∀ n,P (sweepN m n).1
 | 0=>h
 | n+1=>by
   have ih:=sweep_inv hs h n
   rw [sweepN_succ,sweepS]
   split
   · rename_i hc
     exact hs _ _ ih hc.1 hc.2
   · exact ih

theorem sweep_none {m:MZ}:∀ n,(sweepN m n).2=false→(sweepN m n).1=m∧∀ t,t<n→¬(canZ m (t:Int)=true∧m.k<20000)
 | 0,_=>⟨rfl,fun t h=>by omega⟩
 | n+1,h=>by
   rw [sweepN_succ,sweepS] at h ⊢
   split at h
   · cases h
   · rename_i hc
     obtain ⟨e,hn⟩:=sweep_none n h
     rw [if_neg hc]
     refine ⟨e,fun t ht=>?_⟩
     rcases Nat.lt_succ_iff_lt_or_eq.1 ht with h' | rfl
     · exact hn t h'
     · rw [e] at hc;exact hc

theorem finZ_inv {P:MZ→Prop} (hs:∀ m (t:Nat),P m→canZ m t=true→m.k<20000→P (stepZ m t).2):∀ (f:Nat) (m:MZ),P m→WF m→20001≤f+m.k→P (finZ f m)∧∀ t,t<(finZ f m).ts.length→¬(canZ (finZ f m) (t:Int)=true∧(finZ f m).k<20000)
 | 0,m,_,hw,h=>by have:=hw.k;omega
 | f+1,m,hP,hw,h=>by
   have hsw:=sweepN_ok hw m.ts.length
   have hi:=sweep_inv hs hP m.ts.length
   rw [finZ]
   split
   · rename_i hb
     have:=hsw.up hb
     exact finZ_inv hs f _ hi hsw.wf (by omega)
   · rename_i hb
     have hb:(sweepN m m.ts.length).2=false:=by simpa using hb
     obtain ⟨e,hn⟩:=sweep_none _ hb
     rw [e]
     exact ⟨hP,hn⟩

theorem finish_inv {P:MZ→Prop} (hs:∀ m (t:Nat),P m→canZ m t=true→m.k<20000→P (stepZ m t).2) {m:MZ} (hP:P m) (hw:WF m):P (finish m)∧∀ t,t<(finish m).ts.length→¬(canZ (finish m) (t:Int)=true∧(finish m).k<20000) :=
 finZ_inv hs 20001 m hP hw (by omega)

theorem step_or {m:MZ} (hw:WF m) (t:Int):(stepZ m t).2=m∨∃ s:Nat,t=s∧canZ m s=true∧m.k<20000:=by
 by_cases h1:t<0∨(m.ts.length:Int)≤t
 · left;rw [stepZ,if_pos h1]
 by_cases h2:(thZ m t.toNat).dn=true
 · left;rw [stepZ,if_neg h1,if_pos h2]
 by_cases h3:asleepZ m t=true
 · left;rw [stepZ,if_neg h1,if_neg h2,if_pos h3]
 by_cases h4:m.k=20000
 · left;rw [stepZ,if_neg h1,if_neg h2,if_neg h3,if_pos h4]
 right
 obtain ⟨s,rfl⟩:=Int.eq_ofNat_of_zero_le (show 0≤t by omega)
 refine ⟨s,rfl,?_,by have:=hw.k;omega⟩
 rw [Int.toNat_natCast] at h2
 rw [canZ,decide_eq_true (by omega)]
 simp [h2,h3]

theorem can_out {m:MZ} {t:Nat} (h:canZ m t=true):∃ x,m.ts[t]? = some x∧x.dn=false∧noT m.ss t:=by
 simp only [canZ,Bool.and_eq_true,decide_eq_true_eq,Bool.not_eq_true',Int.toNat_natCast] at h
 obtain ⟨⟨h1,h2⟩,h3⟩:=h
 obtain ⟨x,hx⟩ : ∃ x,m.ts[t]? = some x:=⟨_,List.getElem?_eq_getElem (by omega)⟩
 refine ⟨x,hx,by rw [thZ_get hx] at h2;exact h2,fun s hs=>?_⟩
 rw [asleepZ,List.any_eq_false] at h3
 simpa using h3 s hs

theorem can_in {m:MZ} {t:Nat} {x:ThZ} (hx:m.ts[t]? = some x) (hd:x.dn=false) (hno:noT m.ss t):canZ m t=true:=by
 have:=(List.getElem?_eq_some_iff.1 hx).1
 rw [canZ,decide_eq_true (by omega),Int.toNat_natCast,thZ_get hx,hd,asleep_no hno]
 rfl

theorem can_go {m:MZ} {t:Nat} {x:ThZ} {p:List InsZ} {i:InsZ} (hc:canZ m t=true) (hk:m.k<20000) (hx:m.ts[t]? = some x) (hp:m.ps[t]? = some p) (hi:p[x.pc]? = some i) :
   (stepZ m t).2=(doZ ({ m with k:=m.k+1 }.th t { x with pc:=x.pc+1 }) t { x with pc:=x.pc+1 } i).2:=by
 obtain ⟨y,hy,hd,hno⟩:=can_out hc
 rw [hx] at hy
 obtain rfl:=Option.some.inj hy
 have hlt:=(List.getElem?_eq_some_iff.1 hx).1
 rw [stepZ,if_neg (by omega),Int.toNat_natCast,thZ_get hx,if_neg (by rw [hd];decide),asleep_no hno,if_neg (by decide),if_neg (by omega),goZ,onZ,thZ_get hx,insZ_get hp hi]

def rsum (n:Nat) (g:Nat→Nat):Nat:=((List.range n).map g).sum

theorem rsum_succ (n:Nat) (g:Nat→Nat):rsum (n+1) g=rsum n g+g n:=by
 rw [rsum,List.range_succ,List.map_append,List.sum_append]
 simp [rsum]

theorem rsum_le {n:Nat} {g h:Nat→Nat} (hl:∀ s,s<n→g s≤h s):rsum n g≤rsum n h:=by
 induction n with
 | zero=>exact Nat.le_refl _
 | succ n ih =>
   rw [rsum_succ,rsum_succ]
   have:=ih fun s hs=>hl s (by omega)
   have:=hl n (by omega)
   omega

theorem rsum_upd {n t:Nat} {g h:Nat→Nat} (ht:t<n) (hl:∀ s,s<n→s≠t→g s≤h s):rsum n g+h t≤rsum n h+g t:=by
 induction n with
 | zero=>omega
 | succ n ih =>
   rw [rsum_succ,rsum_succ]
   by_cases e:t=n
   · subst e
     have:=rsum_le (n:=t) (g:=g) (h:=h) fun s hs=>hl s (by omega) (by omega)
     omega
   · have:=ih (by omega) fun s hs hne=>hl s (by omega) hne
     have:=hl n (by omega) (by omega)
     omega

theorem rsum_const (n c:Nat) (g:Nat→Nat) (h:∀ s,s<n→g s≤c):rsum n g≤n*c:=by
 induction n with
 | zero=>simp [rsum]
 | succ n ih =>
   rw [rsum_succ,Nat.succ_mul]
   have:=ih fun s hs=>h s (by omega)
   have:=h n (by omega)
   omega

def relI (p:Int) (i:InsZ):InsZ :=
 if i.op=10 then { i with a:=p+i.a } else if i.op=11∨i.op=12∨i.op=13 then { i with c:=p+i.c } else i

end Go.Mac
end

section
open Go Go.Proofs Go.Mac
set_option maxRecDepth 100000

namespace Go.Mac

def catU:Nat→List (List InsZ)→List InsZ
 | _,[]=>[]
 | p,b::bs=>b.map (relI p)++catU (p+b.length) bs

def offB (bs:List (List InsZ)) (j:Nat):Nat:=((bs.take j).map List.length).sum

def catP (bs:List (List InsZ)):List InsZ:=catU 0 bs++[⟨0,0,0,0,0⟩]

theorem offB_cons (b:List InsZ) (bs:List (List InsZ)) (j:Nat):offB (b::bs) (j+1)=b.length+offB bs j:=by
 simp [offB]

theorem catU_len:∀ (p:Nat) (bs:List (List InsZ)),(catU p bs).length=offB bs bs.length
 | _,[]=>rfl
 | p,b::bs=>by
   rw [catU,List.length_append,List.length_map,catU_len,List.length_cons,offB_cons]

inductive Eff where
 | no
 | act (o x y:Int)
 | sleep
 | wake (n:Int)
 | say (a x:Int)

def shT (p:Nat) (x:ThZ):ThZ:={ x with pc:=p+x.pc }

structure GZ where
 j:Nat
 y:ThZ

def conc (bs:List (List InsZ)) (g:GZ):ThZ:=shT (offB bs g.j) g.y

structure Sys (n:Nat) (bs:Nat→List (List InsZ)) (gs:Nat→GZ) (v:Int) (m:MZ):Prop where
 wf:WF m
 ln:m.ts.length=n
 ps:∀ t,t<n→m.ps[t]? = some (catP (bs t))
 ws:m.ws=[v]
 ts:∀ t,t<n→m.ts[t]? = some (conc (bs t) (gs t))

end Go.Mac
end

section
open Go Go.Proofs Go.Mac
set_option maxRecDepth 100000

namespace Go.Mac

theorem okI_rel {cells size p:Int} {L:Nat} {i:InsZ} (h:okI cells ((L:Int)+1) i=true) (hp:0≤p) (hs:p+L<size):okI cells size (relI p i)=true:=by
 obtain ⟨op,a,b,c,d⟩:=i
 have hop:0≤op∧op<17:=by
   simp only [okI,Bool.and_eq_true,decide_eq_true_eq] at h
   exact h.1.1.1.1
 rcases (show op=0∨op=1∨op=2∨op=3∨op=4∨op=5∨op=6∨op=7∨op=8∨op=9∨op=10∨op=11∨op=12∨op=13∨op=14∨op=15∨op=16 by omega) with rfl | rfl | rfl | rfl | rfl | rfl | rfl | rfl | rfl | rfl | rfl | rfl | rfl | rfl | rfl | rfl | rfl <;> first
   | exact h
   | (simp [okI,relI,fo,formZ,fitsZ] at h ⊢;omega)

theorem catU_ok {cells size:Int}:∀ (bs:List (List InsZ)) (p:Nat),(∀ b∈bs,∀ i∈b,okI cells ((b.length:Int)+1) i=true)→((p+offB bs bs.length:Nat):Int)<size→∀ i∈catU p bs,okI cells size i=true
 | [],_,_,_,i,hi=>by cases hi
 | b::bs,p,h,hs,i,hi=>by
   rw [List.length_cons,offB_cons] at hs
   rw [catU,List.mem_append] at hi
   rcases hi with hi | hi
   · obtain ⟨j,hj,rfl⟩:=List.mem_map.1 hi
     exact okI_rel (h b (by simp) j hj) (by omega) (by omega)
   · exact catU_ok bs (p+b.length) (fun c hc=>h c (by simp [hc])) (by omega) i hi

theorem catP_right {bs:List (List InsZ)} {cells:Int} (hc:0≤cells∧cells≤300) (hb:∀ b∈bs,∀ i∈b,okI cells ((b.length:Int)+1) i=true) (hl:offB bs bs.length<600):rightZ (catP bs) cells=true:=by
 have hlen:(catP bs).length=offB bs bs.length+1:=by rw [catP,List.length_append,catU_len];rfl
 rw [rightZ,decide_eq_true hc,hlen,decide_eq_true (by omega)]
 simp only [Bool.true_and,Bool.and_eq_true]
 refine ⟨List.all_eq_true.2 fun i hi=>?_,?_⟩
 · rw [catP,List.mem_append] at hi
   rcases hi with hi | hi
   · exact catU_ok bs 0 hb (by omega) i hi
   · obtain rfl:=List.mem_singleton.1 hi
     simp [okI,fo,formZ,fitsZ]
 · rw [lastOp,catP,List.getLast?_append]
   rfl

theorem offB_le {n:Nat}:∀ (bs:List (List InsZ)) (_:∀ b∈bs,b.length≤n) (j:Nat),offB bs j≤n*bs.length
 | [],_,j=>by simp [offB]
 | b::bs,h,0=>by simp [offB]
 | b::bs,h,j+1=>by
   rw [offB_cons,List.length_cons,Nat.mul_succ]
   have:=offB_le bs (fun c hc=>h c (by simp [hc])) j
   have:=h b (by simp)
   omega

end Go.Mac
end

section
open Go Go.Proofs Go.Mac
set_option maxRecDepth 100000

namespace Go.Mac

def bodyG (c:CallZ):List InsZ:=gathI 0 c
abbrev ownL:List CallZ:=[⟨11,0⟩,⟨7,0⟩,⟨9,0⟩,⟨6,1⟩]

theorem gath_rel (p:Nat) (c:CallZ):gathI (p:Int) c=(bodyG c).map (relI (p:Int)):=by
 obtain ⟨w,n⟩:=c
 rw [bodyG]
 by_cases h6:w=6
 · subst h6
   simp [gathI,registerI,registerT,overI,relI]
 by_cases h10:w=10
 · subst h10
   simp [gathI,awaitI,awaitT,overI,relI,Int.add_assoc]
 by_cases h11:w=11
 · subst h11
   simp [gathI,closesI,closesT,overI,relI]
 by_cases h9:w=9
 · subst h9
   simp [gathI,arriveI,arriveT,awaitI,awaitT,overI,relI,Int.add_assoc]
 by_cases h8:w=8
 · subst h8
   simp [gathI,arriveI,arriveT,tellsI,overI,relI]
 · simp [gathI,h6,h10,h11,h9,h8,arriveI,arriveT,tellsI,overI,relI]

theorem gath_fold:∀ (l:List CallZ) (out:List InsZ),l.foldl (fun out c=>out++gathI out.length c) out=out++catU out.length (l.map bodyG)
 | [],out=>by simp [catU]
 | c::l,out=>by
   rw [List.foldl_cons,gath_fold l,gath_rel]
   simp only [List.map_cons,catU,List.length_append,List.length_map,List.append_assoc]

theorem gathP_cat (l:List CallZ):gathP l=catP (l.map bodyG):=by
 rw [gathP,gathU,gath_fold,catP]
 rfl

end Go.Mac
end

section
open Go Go.Proofs Go.Mac
set_option maxRecDepth 100000

namespace Go.Mac
open Go.RowKit Go.Shelf

attribute [local go_sem] Oper.semAt_some

theorem rel_none (w:World) (L:Nat→Loc):Rel (fun b=>b<w.heap.size) (fun _=>False) w L [] w :=
 ⟨Bel.refl _ _,fun _ hk=>hk,fun _ _ h=>(by simp at h),fun _ _ _ h=>(by simp at h),fun _ _ _ h=>(by simp at h),fun _ h=>h.elim⟩

theorem index_calls (s:List UInt8) (c:UInt8) (w:World):Calls Tryz.prog 95 #[.string ⟨s.toArray⟩,.string ⟨#[c]⟩] w fun e w'=>e=.returned (.int .i64 (Lib.indexByte s c))∧Bel (fun k=>k<w.heap.size) w w' :=
 Does.top (x:=.int .i64 (Lib.indexByte s c)) (index1 s c rfl) (rel_none w fun _=>⟨⟨0,0,0,0⟩,fun _=>⟨0,0,0,0⟩⟩) ⟨_,_,rfl,rfl,_,_,rfl,rfl,rfl⟩

theorem cell_lt {w:World} {b:Nat} {v:Value} (h:w.cell? ⟨b,0,none⟩ = some v):b<w.heap.size:=by
 rcases Nat.lt_or_ge b w.heap.size with hl | hl
 · exact hl
 · simp [World.cell?,Array.getElem?_eq_none hl] at h

theorem first_of {c:UInt8}:∀ {r:List UInt8},c∈r→∃ p r2,r=p++c::r2∧c∉p
 | [],h=>by simp at h
 | b::r,h=>by
   by_cases e:b=c
   · exact ⟨[],r,by rw [e];rfl,by simp⟩
   · obtain ⟨p,r2,h1,h2⟩:=first_of (show c∈r by simpa [Ne.symm e] using h)
     exact ⟨b::p,r2,by rw [h1];rfl,by simp [h2,Ne.symm e]⟩

theorem wrap64_self {n:Int} (h0 : -9223372036854775808≤n) (h1:n≤9223372036854775807):wrap64 n=n:=by
 unfold wrap64
 omega

def leftS (b:Nat) (w:World):Nat :=
 match w.cell? ⟨b,0,none⟩ with
 | some (.string s)=>s.size
 | _=>0

set_option maxHeartbeats 1000000 in
theorem splits:Splits splitB Tryz.prog 101:=by
 intro l bs bp bz s c J Jp W hs hne1 hne2 hcs hfs hcp hcz hJ0 hgrow hset hround
 refine (callsIn_wide (n:=1)).1 (callsIn_of_wp Tryz.func101 rfl trivial ?_ rfl)
 simp only [Tryz.ntmps101,List.size_toArray,List.length_cons,List.length_nil,Nat.reduceAdd,Nat.reduceSub,Array.replicate_succ,Array.replicate_zero,List.push_toArray,List.append_toArray,List.nil_append,List.cons_append]
 gi_wp2
 gi_loopw [] (fun wr=>∃ (k:Nat) (r:List UInt8),wr.cell? ⟨bs,0,none⟩ = some (.string ⟨r.toArray⟩)∧wr.frozen? ⟨bs,0,none⟩ = false∧wr.cell? ⟨bp,0,none⟩ = some (.string ⟨#[c]⟩)∧wr.cell? ⟨bz,0,none⟩ = some (.int .i64 0) ∧
     J k wr∧(splitB c s).drop k=splitB c r∧r.length≤s.length)
   (fun wr=>leftS bs wr)
 case atStart =>
   exact ⟨0,s,hcs,hfs,hcp,hcz,hJ0,rfl,Nat.le_refl _⟩
 case round =>
   obtain ⟨k,r,h1,h2,h3,h4,h5,h6,h7⟩:=hrel
   gi_wp2
   refine ⟨trivial,?_⟩
   refine (callsIn_wide.2 (index_calls r c _)).mono ?_
   rintro e W2 ⟨rfl,hb⟩
   have lt1:bs<wr.heap.size:=cell_lt h1
   have lt2:bp<wr.heap.size:=cell_lt h3
   have lt3:bz<wr.heap.size:=cell_lt h4
   have g1:W2.cell? ⟨bs,0,none⟩ = some (.string ⟨r.toArray⟩):=(cell?_of_heap (hb.block bs lt1)).trans h1
   have g2:W2.frozen? ⟨bs,0,none⟩ = false:=by simp only [World.frozen?,hb.block bs lt1];exact h2
   have g3:W2.cell? ⟨bp,0,none⟩ = some (.string ⟨#[c]⟩):=(cell?_of_heap (hb.block bp lt2)).trans h3
   have g4:W2.cell? ⟨bz,0,none⟩ = some (.int .i64 0):=(cell?_of_heap (hb.block bz lt3)).trans h4
   have g5:J k W2:=hgrow k wr W2 h5 hb
   by_cases hcr:c∈r
   · obtain ⟨p,r2,rfl,hcp2⟩:=first_of hcr
     rw [index_app hcp2]
     rw [split_app hcp2] at h6
     have hpk:(splitB c s)[k]? = some p:=by
       have:=congrArg (·[0]?) h6
       simpa using this
     obtain ⟨fn,tmps,assign,body,hy,hR⟩:=hround k p W2 g5 hpk
     have hpl:p.length+r2.length+1≤1000000000:=by
       have:(p++c::r2).length=p.length+r2.length+1:=by simp;omega
       omega
     have hw0:wrap64 (p.length:Int)=(p.length:Int):=wrap64_self (by omega) (by omega)
     have hx0:(⟨(p++c::r2).toArray⟩ : ByteArray).extract 0 p.length = ⟨p.toArray⟩:=by
       apply ByteArray.ext
       simp [ByteArray.data_extract]
     have hle:(p.length:Int)≤p.length+(r2.length+1):=by omega
     gi_wp2
     refine hR.mono ?_
     rintro e W3 (⟨rfl,hJ3,hsame⟩ | ⟨ch,rfl,hp⟩)
     · have e1:W3.cell? ⟨bs,0,none⟩ = some (.string ⟨(p++c::r2).toArray⟩):=(cell?_of_heap (hsame bs (.inl rfl))).trans g1
       have e2:W3.frozen? ⟨bs,0,none⟩ = false:=by simp only [World.frozen?,hsame bs (.inl rfl)];exact g2
       have e3:W3.cell? ⟨bp,0,none⟩ = some (.string ⟨#[c]⟩):=(cell?_of_heap (hsame bp (.inr (.inl rfl)))).trans g3
       have e4:W3.cell? ⟨bz,0,none⟩ = some (.int .i64 0):=(cell?_of_heap (hsame bz (.inr (.inr rfl)))).trans g4
       have hx2:(⟨(p++c::r2).toArray⟩ : ByteArray).extract (p.length+1) (p.length+(r2.length+1)) = ⟨r2.toArray⟩:=by
         apply ByteArray.ext
         simp [ByteArray.data_extract,List.drop_append]
         rw [List.drop_eq_nil_of_le (by omega),List.nil_append,List.take_of_length_le (by omega)]
       gi_wp2
       have f1:(W3.setCell ⟨bs,0,none⟩ (.string ⟨r2.toArray⟩)).cell? ⟨bs,0,none⟩ = some (.string ⟨r2.toArray⟩):=World.cell?_setCell_same' _ _ _ (by rw [e1];rfl)
       refine ⟨⟨k+1,r2,f1,by rw [World.frozen?_setCell];exact e2,?_,?_,hset _ _ _ hJ3,?_,?_⟩,?_⟩
       · exact (cell?_of_heap (heap_setCell_ne _ _ _ _ (Ne.symm hne1))).trans e3
       · exact (cell?_of_heap (heap_setCell_ne _ _ _ _ (Ne.symm hne2))).trans e4
       · rw [←List.drop_drop,h6]
         rfl
       · have:(p++c::r2).length=p.length+r2.length+1:=by simp;omega
         omega
       · rw [leftS,f1,leftS,h1]
         show r2.toArray.size<(p++c::r2).toArray.size
         simp
         omega
     · gi_wp2
       exact ⟨rfl,.inr ⟨ch,rfl,hp⟩⟩
   · rw [index_free hcr]
     obtain ⟨fn,tmps,assign,body,hy,hR⟩:=hround k r W2 g5 (by
       rw [split_one hcr] at h6
       have:=congrArg (·[0]?) h6
       simpa using this)
     gi_wp2
     refine hR.mono ?_
     rintro e W3 (⟨rfl,hJ3,hsame⟩ | ⟨ch,rfl,hp⟩)
     · gi_wp2
       have hk1:(splitB c s).length=k+1:=by
         rw [split_one hcr] at h6
         have:=congrArg List.length h6
         simp at this
         omega
       exact ⟨rfl,_,results_none rfl _ _ _,.inl ⟨_,rfl,by rw [hk1];exact hJ3⟩⟩
     · gi_wp2
       exact ⟨rfl,.inr ⟨ch,rfl,hp⟩⟩

end Go.Mac
end

section
open Go Go.Proofs Go.Mac
set_option maxRecDepth 100000

namespace Go.Mac

def whatF (w:List UInt8):Nat→Int
 | 0=>0
 | i+1=>if 0<i∧namL.getD i []=w then (i:Int) else whatF w i

def whatV (w:List UInt8):Int:=whatF w 19

def hasN (k:Int):Bool:=k == 5 || k == 6 || k == 10

def callV (w n:List UInt8) (has:Bool):Option CallZ :=
 if whatV w=0∨has≠hasN (whatV w) then none else if has=true then (tokV n).map fun k=>⟨whatV w,k⟩ else some ⟨whatV w,0⟩

def oneV (x:List UInt8):Option CallZ :=
 match cutB 61 x with
 | some (w,n)=>callV w n true
 | none=>callV x [] false

def partsV:List (List UInt8)→Option (List CallZ)
 | []=>some []
 | x::xs=>match oneV x,partsV xs with
   | some c,some l=>some (c::l)
   | _,_=>none

def callsV (s:List UInt8):Option (List CallZ):=if s=[45] then some [] else partsV (splitB 44 s)

theorem partsV_snoc {x:List UInt8}:∀ {xs:List (List UInt8)} {l:List CallZ},partsV xs=some l→partsV (xs++[x])=(oneV x).map fun c=>l++[c]
 | [],l,h=>by
   obtain rfl:=Option.some.inj h
   simp only [List.nil_append,partsV]
   cases oneV x <;> rfl
 | y::ys,l,h=>by
   simp only [partsV] at h
   split at h <;> try cases h
   rename_i c l' hc hl
   rw [List.cons_append,partsV,hc,partsV_snoc hl]
   cases oneV x <;> rfl

theorem partsV_none {x:List UInt8} {zs:List (List UInt8)} (hx:oneV x=none):∀ (xs:List (List UInt8)),partsV (xs++x::zs)=none
 | []=>by simp only [List.nil_append,partsV,hx]
 | y::ys=>by
   rw [List.cons_append,partsV,partsV_none hx ys]
   cases oneV y <;> rfl

section

variable {K:AV→List Nat→List PO→Prop} {J:CV→List Nat→List PO→Prop}

abbrev tabsH:List PO:=[powH,errS,errR,namH]

abbrev partH (l:List CallZ):List PO:=tabsH++[.one [.slc 5 0 l.length none false],.rows false 2 (l.map rowCallZ)]

theorem cutOne (x:List UInt8) (hx:x.length≤1000000000):∃ w n has,oneV x=callV w n has∧n.length≤1000000000∧∀ K:AV→List Nat→List PO→Prop,K (.tup [.c (.f (.str w)),.c (.f (.str n)),.c (.f (.bool has))]) [] []→Does Tryz.prog 223 [st x,st [61]] [] K:=by
 cases hc:cutB 61 x with
 | none=>exact ⟨x,[],false,by rw [oneV,hc],by simp,fun K h=>cutAll hx (fun l r e=>by rw [hc] at e;cases e) fun _=>h⟩
 | some p =>
   obtain ⟨w,n⟩:=p
   obtain ⟨e1,_⟩:=cut_some hc
   refine ⟨w,n,true,by rw [oneV,hc],?_,fun K h=>cutAll hx (fun l r e=>?_) fun e=>by rw [hc] at e;cases e⟩
   · have:=congrArg List.length e1
     simp at this
     omega
   · rw [hc] at e
     obtain ⟨rfl,rfl⟩:=Prod.mk.inj (Option.some.inj e)
     exact h

theorem whatF_next (w:List UInt8) (i:Nat):whatF w (i+1)=if 0<i∧namL.getD i []=w then (i:Int) else whatF w i:=rfl

theorem splitSeqMk {s:List UInt8} {c:UInt8} (h:K (cv (.func 101 [1,0,2])) [] [.one [.f (.str s)],.one [.f (.str [c])],.one [.f (.int .i64 0)]]):Does Tryz.prog 28 [st s,st [c]] [] K:=by
 refine does Tryz.func28 rfl (by decide) ?_
 change Does Tryz.prog 48 _ _ _
 refine does Tryz.func48 rfl (by decide) ?_
 exact h

theorem partH_snoc (l:List CallZ) (c:CallZ):partH (l++[c])=tabsH++[.one [.slc 5 0 (l.length+1) none false],.rows false 2 (l.map rowCallZ++[rowCallZ c])]:=by simp [partH]

theorem partsV_len:∀ {xs:List (List UInt8)} {l:List CallZ},partsV xs=some l→l.length=xs.length
 | [],l,h=>by obtain rfl:=Option.some.inj h;rfl
 | y::ys,l,h=>by
   simp only [partsV] at h
   split at h <;> try cases h
   rename_i c l' hc hl
   simp [partsV_len hl]

theorem callsOf {s:List UInt8} (hs:s.length≤1000000000) (h0:s=[45]→K (cv .nilslc) [] tabsH) (h1:∀ l,s≠[45]→callsV s=some l→K (cv (.slc 4 0 l.length none false)) [] (tabsH++[.rows false 2 (l.map rowCallZ)])) (hJ:callsV s=none→J (wrongE 3) [] tabsH) :
   DoesX Tryz.prog 174 [st s] tabsH K J:=by
 refine DoesX.keepB 4 [] rfl ?_
 refine doesG (cuts:=splitB) (xs:=[_,_,_]) Tryz.func174 rfl (by decide) splits ⟨_,Tryz.func101,by decide,rfl⟩ ?_
 refine brc_intro (fun he=>?_) (fun hne=>?_)
 · have he:s=[45]:=eq_of_beq he
   refine ⟨4,[0,1,2,3],_,_,rfl,by decide,by decide,by decide,by decide,by decide,rfl,rfl,rfl,rfl,rfl,h0 he⟩
 · have hne:s≠[45]:=fun e=>by
     have h:(s == [45])=false:=hne
     rw [e] at h
     cases h
   change DoesX Tryz.prog 28 _ _ _ _
   refine DoesX.alone 5 (DoesX.of (splitSeqMk ?_))
   have hpl:∀ x∈splitB 44 s,x.length≤1000000000:=fun x hx=>Nat.le_trans (split_mem_len s x hx) hs
   have hpn:(splitB 44 s).length≤1000000001:=by
     have:=split_len 44 s
     have:=count_len (c:=44) s
     omega
   refine ⟨s,44,15,5,6,[(3,cv (.ptr 4 0))],tabsH++[.one [.nilslc]],[5],List CallZ,fun k l=>partsV ((splitB 44 s).take k)=some l,partH,[],rfl,rfl,by decide,hs,rfl,rfl,by decide,by decide,rfl,rfl,?_,?_,Conv.nil (H:=tabsH++[.one [.nilslc]]) (cs:=[.nilslc]) 4 0 2 (by decide) rfl rfl,rfl,fun _=>rfl,?_,?_⟩
   · intro i
     by_cases hi:i=3
     · subst hi;exact .inr rfl
     · exact .inl (by rw [lk_cons,if_neg (Ne.symm hi)];rfl)
   · intro i
     by_cases hi:i=3
     · subst hi;rfl
     · have:lk [(3,cv (CV.ptr 4 0))] i=.u:=by rw [lk_cons,if_neg (Ne.symm hi)];rfl
       rw [this]
       rfl
   · intro k l x hl hx
     refine S_rX ?_
     refine S_rX ?_
     have hxm:=List.mem_of_getElem? hx
     have hkl:k<(splitB 44 s).length:=(List.getElem?_eq_some_iff.1 hx).1
     obtain ⟨w,n,has,hov,hnl,hcut⟩:=cutOne x (hpl x hxm)
     change DoesX Tryz.prog 223 _ _ _ _
     refine DoesX.alone 6 (DoesX.of (hcut _ ?_))
     refine SX.loop (fun i:Nat=>i≤19) (fun i=>[(3,cv (.ptr 4 0)),(5,st w),(6,st n),(7,bl has),(8,cv (.ptr 6 0)),(23,.p (.agg (namL.map fun s=>CV.f (.str s)))),(24,i64 i)])
       (fun i=>partH l++[.one [.f (.int .i64 (whatF w i)),.f (.int .i64 0)]]) (fun i=>19-i) []
       (At.mk' [3,5,6,7,8,23,24] 0 (by simp) ⟨rfl,rfl⟩ rfl rfl (by simp) (by simp) (by simp)) ?_
     · intro i hi
       change i≤19 at hi
       refine S_rX ?_
       refine brc_intro (fun hlt=>?_) (fun hlt=>?_)
       · have hlt:i<19:=by
           have:=of_decide_eq_true hlt
           have:(i:Int)<19:=this
           omega
         have hnm:namL[i]? = some (namL.getD i []):=by
           rw [List.getD_eq_getElem?_getD,List.getElem?_eq_getElem (show i<namL.length from hlt)]
           rfl
         have hq:(namL.map fun s=>CV.f (.str s))[Int.toNat (i:Int)*1]? = some (.f (.str (namL.getD i []))):=by
           rw [Nat.mul_one,Int.toNat_natCast,List.getElem?_map,hnm]
           rfl
         have hnx:=whatF_next w i
         refine SX.inlR ?_
         refine at2 (a:=(0:Int)≤(i:Int)) (b:=(i:Int)<((19:Nat):Int)) (by omega) (by omega) (Exists.intro _ (And.intro hq ?_))
         refine brc_intro (fun h1=>?_) (fun h1=>?_)
         · have h1:(i:Int) > 0:=of_decide_eq_true h1
           refine brc_intro (fun h2=>?_) (fun h2=>?_)
           · have h2:namL.getD i []=w:=eq_of_beq h2
             rw [if_pos ⟨by omega,h2⟩] at hnx
             refine At.mk' [3,5,6,7,8,23,24] (i+1) ⟨hlt,by omega⟩ ⟨?_,rfl⟩ ?_ rfl (by simp) (by simp) (by simp)
             · rw [wrap_i64 ((i:Int)+1) (by omega) (by omega)]
               rfl
             · rw [hnx]
               rfl
           · have h2:(namL.getD i [] == w)=false:=h2
             rw [if_neg (fun e=>by rw [e.2] at h2;simp at h2)] at hnx
             refine At.mk' [3,5,6,7,8,23,24] (i+1) ⟨hlt,by omega⟩ ⟨?_,rfl⟩ ?_ rfl (by simp) (by simp) (by simp)
             · rw [wrap_i64 ((i:Int)+1) (by omega) (by omega)]
               rfl
             · rw [hnx]
               rfl
         · have h1:¬(i:Int) > 0:=of_decide_eq_false h1
           rw [if_neg (fun e=>by omega)] at hnx
           refine At.mk' [3,5,6,7,8,23,24] (i+1) ⟨hlt,by omega⟩ ⟨?_,rfl⟩ ?_ rfl (by simp) (by simp) (by simp)
           · rw [wrap_i64 ((i:Int)+1) (by omega) (by omega)]
             rfl
           · rw [hnx]
             rfl
       · have hlt:¬(i:Int)<19:=of_decide_eq_false hlt
         obtain rfl:i=19:=by omega
         have hwv:whatF w 19=whatV w:=rfl
         rw [hwv]
         have bad:callV w n has=none→J (wrongE 3) [] tabsH:=fun h=>by
           refine hJ ?_
           rw [callsV,if_neg hne]
           have:splitB 44 s=(splitB 44 s).take k++x::(splitB 44 s).drop (k+1):=by
             have:=List.drop_eq_getElem_cons hkl
             rw [show (splitB 44 s)[k]=x from (List.getElem?_eq_some_iff.1 hx).2] at this
             rw [←this,List.take_append_drop]
           rw [this]
           exact partsV_none (by rw [hov];exact h) _
         refine brc_intro (fun h1=>?_) (fun h1=>?_)
         · have h1:whatV w=0:=eq_of_beq h1
           have hb:=bad (by rw [callV,if_pos (.inl h1)])
           exact ⟨_,rfl,4,[0,1,2,3],_,_,rfl,by decide,by decide,by decide,by decide,by decide,rfl,rfl,rfl,rfl,rfl,_,rfl,hb⟩
         · have h1:(whatV w == 0)=false:=h1
           have h0w:¬whatV w=0:=by simpa using h1
           have hll:l.length≤1000000001:=by
             have h5:=partsV_len hl
             rw [List.length_take] at h5
             omega
           refine brc_intro (fun h2=>?_) (fun h2=>?_)
           · have h2:(whatV w == 5)=true:=h2
             have hN:hasN (whatV w)=true:=by rw [hasN,h2];rfl
             cases has
             · have hb:=bad (by rw [callV,if_pos (.inr (by rw [hN];decide))])
               exact ⟨_,rfl,4,[0,1,2,3],_,_,rfl,by decide,by decide,by decide,by decide,by decide,rfl,rfl,rfl,rfl,rfl,_,rfl,hb⟩
             · change DoesX Tryz.prog 109 _ _ _ _
               refine DoesX.on 7 [0,1,2] _ _ (number hnl (fun N hN2=>?_) fun hN2=>?_)
               · have hcv:callV w n true=some ⟨whatV w,N⟩:=by rw [callV,if_neg (by rw [hN];simp [h0w]),if_pos rfl,hN2];rfl
                 refine And.intro (by simp) (Or.inl (And.intro rfl (And.intro (by simp) (And.intro (by show (l.length+1)*16≤_;omega) (And.intro (by show l.length+1≤_;omega) ?_)))))
                 refine And.intro (by decide) (Exists.intro (l++[⟨whatV w,N⟩]) (And.intro ?_ (And.intro rfl (And.intro (by simp) ?_))))
                 · rw [partH_snoc];rfl
                 · have:=partsV_snoc (x:=x) hl
                   rw [hov,hcv] at this
                   show partsV ((splitB 44 s).take (k+1))=_
                   rw [List.take_add_one,hx]
                   exact this
               · have hb:=bad (by rw [callV,if_neg (by rw [hN];simp [h0w]),if_pos rfl,hN2];rfl)
                 exact ⟨_,rfl,4,[0,1,2,3],_,_,rfl,by decide,by decide,by decide,by decide,by decide,rfl,rfl,rfl,rfl,rfl,_,rfl,hb⟩
           · have h2:(whatV w == 5)=false:=h2
             refine brc_intro (fun h3=>?_) (fun h3=>?_)
             · have h3:(whatV w == 6)=true:=h3
               have hN:hasN (whatV w)=true:=by rw [hasN,h2,h3];rfl
               cases has
               · have hb:=bad (by rw [callV,if_pos (.inr (by rw [hN];decide))])
                 exact ⟨_,rfl,4,[0,1,2,3],_,_,rfl,by decide,by decide,by decide,by decide,by decide,rfl,rfl,rfl,rfl,rfl,_,rfl,hb⟩
               · change DoesX Tryz.prog 109 _ _ _ _
                 refine DoesX.on 7 [0,1,2] _ _ (number hnl (fun N hN2=>?_) fun hN2=>?_)
                 · have hcv:callV w n true=some ⟨whatV w,N⟩:=by rw [callV,if_neg (by rw [hN];simp [h0w]),if_pos rfl,hN2];rfl
                   refine And.intro (by simp) (Or.inl (And.intro rfl (And.intro (by simp) (And.intro (by show (l.length+1)*16≤_;omega) (And.intro (by show l.length+1≤_;omega) ?_)))))
                   refine And.intro (by decide) (Exists.intro (l++[⟨whatV w,N⟩]) (And.intro ?_ (And.intro rfl (And.intro (by simp) ?_))))
                   · rw [partH_snoc];rfl
                   · have:=partsV_snoc (x:=x) hl
                     rw [hov,hcv] at this
                     show partsV ((splitB 44 s).take (k+1))=_
                     rw [List.take_add_one,hx]
                     exact this
                 · have hb:=bad (by rw [callV,if_neg (by rw [hN];simp [h0w]),if_pos rfl,hN2];rfl)
                   exact ⟨_,rfl,4,[0,1,2,3],_,_,rfl,by decide,by decide,by decide,by decide,by decide,rfl,rfl,rfl,rfl,rfl,_,rfl,hb⟩
             · have h3:(whatV w == 6)=false:=h3
               have hN:hasN (whatV w)=(whatV w == 10):=by rw [hasN,h2,h3];rfl
               refine brc_intro (fun h4=>?_) (fun h4=>?_)
               · have h4:(!(has == (whatV w == 10)))=true:=h4
                 have hb:=bad (by rw [callV,if_pos (.inr (by rw [hN];intro e;rw [e] at h4;simp at h4))])
                 exact ⟨_,rfl,4,[0,1,2,3],_,_,rfl,by decide,by decide,by decide,by decide,by decide,rfl,rfl,rfl,rfl,rfl,_,rfl,hb⟩
               · have h4:(!(has == (whatV w == 10)))=false:=h4
                 have hN:has=hasN (whatV w):=by rw [hN];simpa using h4
                 refine brc_intro (fun h5=>?_) (fun h5=>?_)
                 · have h5:has=true:=h5
                   change DoesX Tryz.prog 109 _ _ _ _
                   refine DoesX.on 7 [0,1,2] _ _ (number hnl (fun N hN2=>?_) fun hN2=>?_)
                   · have hcv:callV w n has=some ⟨whatV w,N⟩:=by rw [callV,if_neg (by rw [←hN];simp [h0w]),if_pos h5,hN2];rfl
                     refine And.intro (by simp) (Or.inl (And.intro rfl (And.intro (by simp) (And.intro (by show (l.length+1)*16≤_;omega) (And.intro (by show l.length+1≤_;omega) ?_)))))
                     refine And.intro (by decide) (Exists.intro (l++[⟨whatV w,N⟩]) (And.intro ?_ (And.intro rfl (And.intro (by simp) ?_))))
                     · rw [partH_snoc];rfl
                     · have:=partsV_snoc (x:=x) hl
                       rw [hov,hcv] at this
                       show partsV ((splitB 44 s).take (k+1))=_
                       rw [List.take_add_one,hx]
                       exact this
                   · have hb:=bad (by rw [callV,if_neg (by rw [←hN];simp [h0w]),if_pos h5,hN2];rfl)
                     exact ⟨_,rfl,4,[0,1,2,3],_,_,rfl,by decide,by decide,by decide,by decide,by decide,rfl,rfl,rfl,rfl,rfl,_,rfl,hb⟩
                 · have h5:has=false:=h5
                   have hcv:callV w n has=some ⟨whatV w,0⟩:=by rw [callV,if_neg (by rw [←hN];simp [h0w]),if_neg (by rw [h5];decide)]
                   refine And.intro (by simp) (Or.inl (And.intro rfl (And.intro (by simp) (And.intro (by show (l.length+1)*16≤_;omega) (And.intro (by show l.length+1≤_;omega) ?_)))))
                   refine And.intro (by decide) (Exists.intro (l++[⟨whatV w,0⟩]) (And.intro ?_ (And.intro rfl (And.intro (by simp) ?_))))
                   · rw [partH_snoc];rfl
                   · have:=partsV_snoc (x:=x) hl
                     rw [hov,hcv] at this
                     show partsV ((splitB 44 s).take (k+1))=_
                     rw [List.take_add_one,hx]
                     exact this
   · intro l hl D
     have hl:partsV ((splitB 44 s).take (splitB 44 s).length)=some l:=hl
     rw [List.take_length] at hl
     have hcv:callsV s=some l:=by rw [callsV,if_neg hne];exact hl
     refine ⟨6,[0,1,2,3,5],_,_,rfl,by decide,by decide,by decide,by decide,by decide,rfl,rfl,rfl,?_,rfl,h1 l hne hcv⟩
     rfl

end

end Go.Mac
end
