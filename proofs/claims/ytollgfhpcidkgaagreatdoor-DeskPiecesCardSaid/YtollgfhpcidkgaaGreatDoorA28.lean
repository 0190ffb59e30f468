/- Texts that belong together; the first of them:  -/
import Derived.Test.YtollgfhpcidkgaaGreatDoorA14
import Derived.Test.YtollgfhpcidkgaaGreatDoorA27
import Derived.Test.YtollgfhpcidkgaaGreatDoorA5
import Derived.Test.YtollgfhpcidkgaaGreatDoorA15
import Derived.Laws.RangeString
import Derived.Test.YtollgfhpcidkgaaGreatDoorA22
import Derived.Test.YtollgfhpcidkgaaGreatDoorA4
import Derived.Test.YtollgfhpcidkgaaGreatDoorA9
import Derived.Test.YtollgfhpcidkgaaGreatDoorA24
import Derived.Test.YtollgfhpcidkgaaGreatDoorA16
import Derived.Test.YtollgfhpcidkgaaGreatDoorA7
import Derived.Test.YtollgfhpcidkgaaGreatDoorA18
import Derived.Test.YtollgfhpcidkgaaGreatDoorA26

section
open Go Go.Proofs Go.Mac
set_option maxRecDepth 100000
namespace Go.Mac
section
def hasSuf (s p:List UInt8):Bool:=decide (p.length≤s.length) && (s.drop (s.length-p.length) == p)
def hasPre (s p:List UInt8):Bool:=decide (p.length≤s.length) && (s.take p.length == p)
def trimSuf (s p:List UInt8):List UInt8:=if hasSuf s p=true then s.take (s.length-p.length) else s

section

variable {K:KP}

theorem hasSuffix2 {s p:List UInt8} (hs:s.length≤1000000000000) (hp:p.length≤1000000000000) (h:K (bl (hasSuf s p)) [] []):Does Tryz.prog 40 [st s,st p] [] K:=by
 refine does Tryz.func40 rfl (by decide) ?_
 refine bZ (fun hg=>?_) (fun hg=>?_)
 · have hg:p.length≤s.length:=by
    have:=oTr hg
    omega
   have hw:IntKind.i64.wrap ((s.length:Int)-(p.length:Int))=((s.length-p.length:Nat):Int):=by
    rw [wrap_i64 _ (by omega) (by omega)]
    omega
   refine at2 (by rw [hw];omega) (by rw [hw];omega) ?_
   have e:K (bl (List.take (s.length-(IntKind.i64.wrap ((s.length:Int)-(p.length:Int))).toNat) (List.drop (IntKind.i64.wrap ((s.length:Int)-(p.length:Int))).toNat s) == p)) [] []:=by
    rw [hw,Int.toNat_natCast,List.take_of_length_le (by simp)]
    rw [hasSuf,decide_eq_true hg,Bool.true_and] at h
    exact h
   exact e
 · have hg:¬p.length≤s.length:=by
    have:=oFa hg
    omega
   rw [hasSuf,decide_eq_false hg,Bool.false_and] at h
   exact h

theorem hasPrefix {s p:List UInt8} (_hs:s.length≤1000000000000) (hp:p.length≤1000000000000) (h:K (bl (hasPre s p)) [] []):Does Tryz.prog 9 [st s,st p] [] K:=by
 refine does Tryz.func9 rfl (by decide) ?_
 change Does Tryz.prog 25 _ _ _
 refine does Tryz.func25 rfl (by decide) ?_
 refine bZ (fun hg=>?_) (fun hg=>?_)
 · have hg:p.length≤s.length:=by
    have:=oTr hg
    omega
   refine at2 (by omega) (by omega) ?_
   have e:K (bl (List.take ((p.length:Int).toNat-0) (List.drop 0 s) == p)) [] []:=by
    rw [Int.toNat_natCast,Nat.sub_zero,List.drop_zero]
    rw [hasPre,decide_eq_true hg,Bool.true_and] at h
    exact h
   exact e
 · have hg:¬p.length≤s.length:=by
    have:=oFa hg
    omega
   rw [hasPre,decide_eq_false hg,Bool.false_and] at h
   exact h

theorem trimSuffix {s p:List UInt8} (hs:s.length≤1000000000000) (hp:p.length≤1000000000000) (h:K (st (trimSuf s p)) [] []):Does Tryz.prog 19 [st s,st p] [] K:=by
 refine does Tryz.func19 rfl (by decide) ?_
 change Does Tryz.prog 39 _ _ _
 refine does Tryz.func39 rfl (by decide) ?_
 change Does Tryz.prog 40 _ _ _
 refine hasSuffix2 hs hp ?_
 refine bZ (fun hg=>?_) (fun hg=>?_)
 · have hg:hasSuf s p=true:=hg
   have hle:p.length≤s.length:=by
    simp only [hasSuf,Bool.and_eq_true,decide_eq_true_eq] at hg
    exact hg.1
   have hw:IntKind.i64.wrap ((s.length:Int)-(p.length:Int))=((s.length-p.length:Nat):Int):=by
    rw [wrap_i64 _ (by omega) (by omega)]
    omega
   refine at2 (by rw [hw];omega) (by rw [hw];omega) ?_
   have e:K (st (List.take ((IntKind.i64.wrap ((s.length:Int)-(p.length:Int))).toNat-0) (List.drop 0 s))) [] []:=by
    rw [hw,Int.toNat_natCast,Nat.sub_zero,List.drop_zero]
    rw [trimSuf,if_pos hg] at h
    exact h
   exact e
 · have hg:hasSuf s p=false:=hg
   rw [trimSuf,if_neg (by rw [hg];decide)] at h
   exact h

end
end
section
def dz0:DZ:=⟨mz0 [] [],[],false⟩

def outN (os:Nat→List UInt8):Nat→List UInt8
 | 0=>[]
 | k+1=>outN os k++(os k++[10])

abbrev sesH (bk:Nat) (y:DZ×VZ×List UInt8):List PO :=
 sysH++(machS 5 y.1.m y.2.1++[.one [.ptr 5 0,.slc 17 0 y.1.cs.length none false,.f (.bool y.1.ph)],.one [.ptr 14 0],bldH bk y.2.2,.rows2 false 2 (y.1.cs.map fun l=>l.map rowCallZ)])

section

variable {K:KP}

theorem sessionX {t:List UInt8} (ht:t.length≤20000) {l:List (List UInt8)} (hl:splitB 10 (trimSuf t [10])=l) (ds:Nat→DZ) (os:Nat→List UInt8) (h0:ds 0=dz0)
  (hstep:∀ k s,l[k]? = some s→s.length≤1000000000→LineX (ds k) s (ds (k+1),os k)) (hos:∀ k,k<l.length→(os k).length≤1000000000) (h:K (st (outN os l.length)) [] sysH) :
  Does Tryz.prog 10 [st t] sysH K:=by
 refine DoesX.does ?_
 refine DoesX.keepB 5 [] rfl ?_
 refine doesG (cuts:=splitB) (xs:=[_,_,_,_]) Tryz.func10 rfl (by decide) splits ⟨_,Tryz.func101,by decide,rfl⟩ ?_
 refine bZ (fun hh=>?_) (fun _=>?_)
 · have hh:(t.length:Int) > 20000:=oTr hh
   omega
 change DoesX Tryz.prog 27 _ _ _ _
 refine DoesX.alone 5 (DoesX.of (coreNewNil fun v hv hw0=>?_))
 change DoesX Tryz.prog 26 _ _ _ _
 refine DoesX.on 14 [5,6,7,8,9,10,11,12,13] _ _ (mustCore (m:=mz0 [] []) (v:=v) ?_)
 intro bk
 change DoesX Tryz.prog 19 _ _ _ _
 refine DoesX.alone 17 (DoesX.of (trimSuffix (by omega) (by decide) ?_))
 change DoesX Tryz.prog 28 _ _ _ _
 refine DoesX.alone 17 (DoesX.of (splitSeqMk ?_))
 have htl:(trimSuf t [10]).length≤20000:=by
  unfold trimSuf
  split
  · exact Nat.le_trans (by simp) ht
  · exact ht
 have hsub:∀ x∈splitB 10 (trimSuf t [10]),x.length≤1000000000:=fun x hx=>by
  have:=split_mem_len (trimSuf t [10]) x hx
  omega
 have hlen:l.length≤20001:=by
  rw [←hl]
  have h1:=split_len 10 (trimSuf t [10])
  have h2:=count_len (c:=10) (s:=trimSuf t [10])
  omega
 have hout:∀ k,k≤l.length→(outN os k).length≤k*1000000001:=by
  intro k
  induction k with
  | zero=>intro _;simp [outN]
  | succ k ih =>
    intro hk
    have h1:=ih (by omega)
    have h2:=hos k (by omega)
    simp only [outN,List.length_append,List.length_singleton]
    omega
 refine ⟨trimSuf t [10],10,18,17,18,[(3,cv (.ptr 15 0)),(4,cv (.hptr bk))],sysH++(machS 5 (mz0 [] []) v++[.one [.ptr 5 0,.nilslc,.f (.bool false)],.one [.ptr 14 0],bldH bk []]),[5,6,7,8,9,10,11,12,13,16,17],DZ×VZ×List UInt8,
  fun k y=>y.1=ds k∧okV y.2.1∧WF y.1.m∧y.2.2=outN os k,sesH bk,(dz0,v,[]),rfl,rfl,by decide,by omega,rfl,rfl,by decide,by decide,rfl,rfl,?_,?_,
  Conv.nil2 (H:=sysH++(machS 5 (mz0 [] []) v++[.one [.ptr 5 0,.nilslc,.f (.bool false)],.one [.ptr 14 0],bldH bk []])) (cs:=[.ptr 5 0,.nilslc,.f (.bool false)]) 14 1 2 rfl rfl,⟨h0.symm,hv,hw0,rfl⟩,fun _=>rfl,?_,?_⟩
 · intro i
   by_cases h3:i=3
   · subst h3;exact .inr rfl
   · by_cases h4:i=4
     · subst h4;exact .inr rfl
     · exact .inl (by rw [lk_cons,if_neg (Ne.symm h3),lk_cons,if_neg (Ne.symm h4)];rfl)
 · intro i
   by_cases h3:i=3
   · subst h3;rfl
   · by_cases h4:i=4
     · subst h4;rfl
     · have:lk [(3,cv (.ptr 15 0)),(4,cv (.hptr bk))] i=.u:=by rw [lk_cons,if_neg (Ne.symm h3),lk_cons,if_neg (Ne.symm h4)];rfl
       rw [this]
       rfl
 · rintro k ⟨d,v1,o1⟩ x ⟨hd,hv1,hw1,ho1⟩ hx
   refine S_rX ?_
   refine S_rX ?_
   change d=ds k at hd
   change WF d.m at hw1
   change o1=outN os k at ho1
   have hxm:=List.mem_of_getElem? hx
   rw [hl] at hx
   have hkl:k<l.length:=(List.getElem?_eq_some_iff.1 hx).1
   have hline:LineX (ds k) x (ds (k+1),os k):=hstep k x hx (hsub x hxm)
   subst hd
   have hok:=hos k hkl
   have hol:=hout k (by omega)
   change DoesX Tryz.prog 30 _ _ _ _
   refine DoesX.on 18 [0,1,2,3,4,14,5,6,7,8,9,10,11,12,13,17] _ _ (DoesX.of (hline.run v1 hv1 hw1 fun v2 hv2 hw2=>?_))
   refine And.intro (Nat.le_trans (Nat.add_le_add_right hok 1) (by decide)) ?_
   change DoesX Tryz.prog 29 _ _ _ _
   refine DoesX.on 18 [16] _ _ (DoesX.of (bldWrite (k:=bk) (bs:=o1) (s:=os k++[10]) (by simp) (by rw [ho1,List.length_append];simp;omega) ?_))
   refine And.intro (by decide) (Exists.intro (ds (k+1),v2,o1++(os k++[10])) (And.intro rfl (And.intro rfl (And.intro (by simp) ?_))))
   exact ⟨rfl,hv2,hw2,by rw [ho1];rfl⟩
 · rintro ⟨d,v1,o1⟩ ⟨hd,hv1,hw1,ho1⟩ D
   rw [hl] at ho1
   change o1=outN os l.length at ho1
   change DoesX Tryz.prog 31 _ _ _ _
   refine DoesX.on 18 [16] _ _ (DoesX.of (bldString (k:=bk) (bs:=o1) ?_))
   rw [ho1]
   exact ⟨5,[0,1,2,3,4],_,_,rfl,by decide,by decide,by decide,by decide,by decide,rfl,rfl,rfl,rfl,rfl,h⟩

end
end
section
open Classical in
noncomputable def nextL (d:DZ) (s:List UInt8):DZ×List UInt8:=if h:∃ r,LineX d s r∧InvD r.1∧r.2.length≤100000000 then Classical.choose h else (d,[])

theorem nextL_ok {d:DZ} {s:List UInt8} (h:∃ r,LineX d s r∧InvD r.1∧r.2.length≤100000000):LineX d s (nextL d s)∧InvD (nextL d s).1∧(nextL d s).2.length≤100000000:=by
 rw [nextL,dif_pos h]
 exact Classical.choose_spec h

noncomputable def dsL (ls:List (List UInt8)):Nat→DZ
 | 0=>dz0
 | k+1=>(nextL (dsL ls k) (ls.getD k [])).1

noncomputable def osL (ls:List (List UInt8)) (k:Nat):List UInt8:=(nextL (dsL ls k) (ls.getD k [])).2

theorem getD_app {ls ms:List (List UInt8)} {k:Nat} (h:k<ls.length):(ls++ms).getD k []=ls.getD k []:=by
 rw [List.getD_eq_getElem?_getD,List.getD_eq_getElem?_getD,List.getElem?_append_left h]

theorem dsL_app (ls ms:List (List UInt8)):∀ k,k≤ls.length→dsL (ls++ms) k=dsL ls k
 | 0,_=>rfl
 | k+1,h=>by rw [dsL,dsL,dsL_app ls ms k (by omega),getD_app (by omega)]

theorem osL_app (ls ms:List (List UInt8)) {k:Nat} (h:k<ls.length):osL (ls++ms) k=osL ls k:=by rw [osL,osL,dsL_app ls ms k (by omega),getD_app h]

theorem outN_congr {f g:Nat→List UInt8}:∀ n,(∀ k,k<n→f k=g k)→outN f n=outN g n
 | 0,_=>rfl
 | n+1,h=>by rw [outN,outN,outN_congr n fun k hk=>h k (by omega),h n (by omega)]

theorem outN_pre (f:Nat→List UInt8) (n:Nat):∀ m,∃ t,outN f (n+m)=outN f n++t
 | 0=>⟨[],by simp⟩
 | m+1=>by
   obtain ⟨t,ht⟩:=outN_pre f n m
   exact ⟨t++(f (n+m)++[10]),by rw [←Nat.add_assoc,outN,ht,List.append_assoc]⟩

theorem inv0:InvD dz0 :=
 ⟨.new (mz0_wf (by decide) (by decide) (fun p hp=>by cases hp) (fun v hv=>by cases hv)) (fun p hp=>by cases hp),(fun h=>by cases h),Nat.zero_le _,(fun l hl=>by cases hl)⟩

theorem ds_inv {ls:List (List UInt8)} (hl:∀ s∈ls,s.length≤1000000):∀ k,k≤ls.length→InvD (dsL ls k)
 | 0,_=>inv0
 | k+1,h=>by
   have hd:=ds_inv hl k (by omega)
   rw [dsL]
   refine (nextL_ok (line_all hd (hl _ ?_))).2.1
   rw [List.getD_eq_getElem?_getD,List.getElem?_eq_getElem (by omega)]
   exact List.getElem_mem _

theorem os_ok {ls:List (List UInt8)} (hl:∀ s∈ls,s.length≤1000000) {k:Nat} {s:List UInt8} (h:ls[k]? = some s):LineX (dsL ls k) s (dsL ls (k+1),osL ls k)∧(osL ls k).length≤100000000:=by
 have hk:=(List.getElem?_eq_some_iff.1 h).1
 have hg:ls.getD k []=s:=by rw [List.getD_eq_getElem?_getD,h];rfl
 have h1:=nextL_ok (line_all (ds_inv hl k (by omega)) (hl s (List.mem_of_getElem? h)))
 rw [dsL,osL,hg]
 exact ⟨h1.1,h1.2.2⟩

def linesF (t:List UInt8):List (List UInt8):=splitB 10 (trimSuf t [10])

theorem trim_le (t:List UInt8):(trimSuf t [10]).length≤t.length:=by
 unfold trimSuf
 split
 · simp
 · exact Nat.le_refl _

theorem lines_len {t:List UInt8} (ht:t.length≤2000):(linesF t).length≤2001∧∀ s∈linesF t,s.length≤1000000:=by
 have h0:=trim_le t
 have h1:=split_len 10 (trimSuf t [10])
 have h2:=count_len (c:=10) (s:=trimSuf t [10])
 refine ⟨by unfold linesF;omega,fun s hs=>?_⟩
 have:=split_mem_len (trimSuf t [10]) s hs
 omega

noncomputable def sessT (t:List UInt8):List UInt8:=outN (osL (linesF t)) (linesF t).length

theorem sess_len {t:List UInt8} (ht:t.length≤2000):(sessT t).length≤1000000000000:=by
 obtain ⟨h1,h2⟩:=lines_len ht
 have:∀ n,n≤(linesF t).length→(outN (osL (linesF t)) n).length≤n*100000001:=by
  intro n
  induction n with
  | zero=>intro _;simp [outN]
  | succ n ih =>
    intro hn
    have h3:=ih (by omega)
    have h4:=(os_ok h2 (List.getElem?_eq_getElem (show n<(linesF t).length by omega))).2
    simp only [outN,List.length_append,List.length_singleton]
    omega
 have h3:=this _ (Nat.le_refl _)
 have h4:(linesF t).length*100000001≤2001*100000001:=Nat.mul_le_mul_right _ h1
 unfold sessT
 omega

theorem session_all {K:KP} {t:List UInt8} (ht:t.length≤2000) (h:K (st (sessT t)) [] sysH):Does Tryz.prog 10 [st t] sysH K:=by
 obtain ⟨h1,h2⟩:=lines_len ht
 refine sessionX (t:=t) (by omega) (l:=linesF t) rfl (dsL (linesF t)) (osL (linesF t)) rfl (fun k s hk hs=>(os_ok h2 hk).1) (fun k hk=>?_) h
 have:=(os_ok h2 (List.getElem?_eq_getElem hk)).2
 omega

theorem split_mid (c:UInt8) (r:List UInt8):∀ p:List UInt8,splitB c (p++c::r)=splitB c p++splitB c r
 | []=>by
   rw [List.nil_append,show splitB c (c::r)=[]::splitB c r by rw [splitB,if_pos rfl]]
   rfl
 | b::p=>by
   rw [List.cons_append,splitB,splitB,split_mid c r p]
   split
   · rfl
   · have hne:=split_ne c p
     cases hs:splitB c p with
     | nil=>exact absurd hs hne
     | cons x xs=>rfl

theorem hasSuf_snoc (s:List UInt8) (x:UInt8):hasSuf (s++[x]) [10]=(x == 10):=by
 simp [hasSuf]

theorem trim_snoc (s:List UInt8):trimSuf (s++[10]) [10]=s:=by
 rw [trimSuf,hasSuf_snoc,if_pos (by decide)]
 simp

theorem trim_keep (s:List UInt8) {x:UInt8} (hx:x≠10):trimSuf (s++[x]) [10]=s++[x]:=by
 rw [trimSuf,hasSuf_snoc,if_neg (by simpa using hx)]

theorem lines_more {a:List UInt8} (ha:∀ t,a≠t++[10]) (b:List UInt8):∃ ms,linesF (a++[10]++b)=linesF a++ms:=by
 have hta:trimSuf a [10]=a:=by
  unfold trimSuf
  refine if_neg fun hs=>?_
  rcases List.eq_nil_or_concat a with rfl | ⟨t,x,rfl⟩
  · cases hs
  · rw [List.concat_eq_append,hasSuf_snoc] at hs
    exact ha t (by rw [List.concat_eq_append,eq_of_beq hs])
 rcases List.eq_nil_or_concat b with rfl | ⟨b',x,rfl⟩
 · refine ⟨[],?_⟩
   have:trimSuf (a++[10]++[]) [10]=a:=by
    rw [List.append_nil,trim_snoc]
   rw [linesF,linesF,this,hta,List.append_nil]
 · rw [List.concat_eq_append]
   by_cases hx:x=10
   · subst hx
     refine ⟨splitB 10 b',?_⟩
     have:trimSuf (a++[10]++(b'++[10])) [10]=a++10::b':=by
      rw [←List.append_assoc,trim_snoc]
      simp
     rw [linesF,linesF,this,hta,split_mid]
   · refine ⟨splitB 10 (b'++[x]),?_⟩
     have:trimSuf (a++[10]++(b'++[x])) [10]=a++10::(b'++[x]):=by
      rw [←List.append_assoc,trim_keep _ hx]
      simp
     rw [linesF,linesF,this,hta,split_mid]

theorem sess_more {a:List UInt8} (ha:∀ t,a≠t++[10]) (b:List UInt8):hasPre (sessT (a++[10]++b)) (sessT a)=true:=by
 obtain ⟨ms,hm⟩:=lines_more ha b
 have:∃ t,sessT (a++[10]++b)=sessT a++t:=by
  unfold sessT
  rw [hm,List.length_append]
  obtain ⟨t,ht⟩:=outN_pre (osL (linesF a++ms)) (linesF a).length ms.length
  refine ⟨t,?_⟩
  rw [ht,outN_congr (linesF a).length fun k hk=>osL_app (linesF a) ms hk]
 obtain ⟨t,ht⟩:=this
 rw [ht,hasPre]
 simp
end
section
def trimR (c:UInt8) (s:List UInt8):List UInt8:=(s.reverse.dropWhile (· == c)).reverse

theorem trimR_snoc (c:UInt8) (s:List UInt8):trimR c (s++[c])=trimR c s:=by
 simp [trimR]

theorem trimR_stop {c x:UInt8} (h:x≠c) (s:List UInt8):trimR c (s++[x])=s++[x]:=by
 simp [trimR,h]

theorem trimR_len (c:UInt8) (s:List UInt8):(trimR c s).length≤s.length:=by
 have:=(List.dropWhile_sublist (fun x=>x == c) (l:=s.reverse)).length_le
 simpa [trimR] using this

theorem trimR_last {c:UInt8} {s t:List UInt8}:trimR c s≠t++[c]:=by
 intro h
 have h2:s.reverse.dropWhile (· == c)=c::t.reverse:=by
  have:=congrArg List.reverse h
  simpa [trimR] using this
 have:=List.head_dropWhile_not (p:=fun x=>x == c) (l:=s.reverse) (by rw [h2];simp)
 simp [h2] at this

section

variable {K:KP}

theorem trimRightByte {s:List UInt8} {c:UInt8} (hs:s.length≤1000000000) (h:K (st (trimR c s)) [] []):Does Tryz.prog 21 [st s,fcv (.int .u8 c.toNat)] [] K:=by
 refine does Tryz.func21 rfl (by decide) ?_
 refine SS.loop (fun t:List UInt8=>t.length≤s.length∧trimR c t=trimR c s) (fun t=>[(0,st t),(1,fcv (.int .u8 c.toNat))]) (fun _=>[]) (fun t=>t.length) []
  (At.mk' [0,1] s ⟨Nat.le_refl _,rfl⟩ ⟨rfl,rfl⟩ rfl rfl (by simp) (by simp) (by simp)) ?_
 rintro t ⟨hl,ht⟩
 change t.length≤s.length at hl
 refine S_r ?_
 refine bZ (fun hlt=>?_) (fun hlt=>?_)
 · have hlt:(t.length:Int) > 0:=oTr hlt
   obtain ⟨u,x,rfl⟩ : ∃ u x,t=u++[x]:=by
    refine ⟨t.dropLast,t.getLast (fun e=>by subst e;simp at hlt),(List.dropLast_concat_getLast _).symm⟩
   have hul:(u++[x]).length=u.length+1:=by simp
   have wl:IntKind.i64.wrap (((u++[x]).length:Int)-1)=(u.length:Int):=by
    rw [wrap_i64 _ (by omega) (by omega)]
    omega
   refine And.intro (by rw [wl];omega) (Exists.intro x (And.intro (by rw [wl];simp) ?_))
   refine bZ (fun hb=>?_) (fun hb=>?_)
   · have hb:x=c:=UInt8.toNat_inj.1 (Int.ofNat.inj (eq_of_beq (show ((x.toNat:Int) == (c.toNat:Int))=true from hb)))
     subst hb
     refine at2 (by rw [wl];omega) (by rw [wl];omega) ?_
     refine At.mk' [0,1] u ⟨⟨by omega,by rw [←ht,trimR_snoc]⟩,by rw [hul];omega⟩ ⟨?_,rfl⟩ rfl rfl (by simp) (by simp) (by decide)
     rw [wl,Int.toNat_natCast]
     simp
   · have hb:x≠c:=fun e=>by
      subst e
      have:((x.toNat:Int) == (x.toNat:Int))=false:=hb
      rw [beq_self_eq_true] at this
      cases this
     rw [←ht,trimR_stop hb] at h
     exact h
 · have hlt:¬(t.length:Int) > 0:=oFa hlt
   obtain rfl:t=[]:=List.eq_nil_of_length_eq_zero (by omega)
   rw [←ht] at h
   exact h

theorem trimRight {s:List UInt8} {c:UInt8} (hc:c.toNat<128) (hs:s.length≤1000000000) (hne:s≠[]) (h:K (st (trimR c s)) [] []):Does Tryz.prog 8 [st s,st [c]] [] K:=by
 refine does Tryz.func8 rfl (by decide) ?_
 refine bZ (fun hb=>absurd (eq_of_beq hb) hne) (fun _=>?_)
 refine And.intro (by decide) (Exists.intro c (And.intro rfl ?_))
 refine bZ (fun _=>?_) (fun hb=>?_)
 · refine And.intro (by decide) (Exists.intro c (And.intro rfl ?_))
   change Does Tryz.prog 21 _ _ _
   exact trimRightByte hs h
 · have hb:¬(c.toNat:Int)<128:=oFa hb
   omega

end
end
end Go.Mac
end
section
open Go Go.Proofs Go.Mac

namespace Go.Mac

def fieldsL:Option (List UInt8)→List UInt8→List (List UInt8)
 | none,[]=>[]
 | some c,[]=>[c]
 | none,b::r=>if b=32 then fieldsL none r else fieldsL (some [b]) r
 | some c,b::r=>if b=32 then c::fieldsL none r else fieldsL (some (c++[b])) r

theorem piece (s:List UInt8) (a b:Nat) (hab:a≤b) (hb:b≤s.length):((ByteArray.mk s.toArray).extract a b).data.toList=(s.drop a).take (b-a):=by
 simp [ByteArray.data_extract]

theorem fields_go {s:List UInt8} (ha:∀ b∈s,b.toNat<128):∀ (r pre:List UInt8),pre++r=s→∀ (f:Nat),r.length≤f→∀ (st:Option Nat) (acc:List (Nat×Nat)),(∀ a,st=some a→a≤pre.length) →
  (Lib.closeSpans ⟨s.toArray⟩ (Lib.spansFromP blankP ⟨s.toArray⟩ f pre.length st acc)).map (fun x=>((ByteArray.mk s.toArray).extract x.1 x.2).data.toList) =
    acc.map (fun x=>((ByteArray.mk s.toArray).extract x.1 x.2).data.toList)++fieldsL (st.map fun a=>pre.drop a) r:=by
 intro r
 induction r with
 | nil =>
   intro pre hs f _ st acc hst
   rw [List.append_nil] at hs
   subst hs
   have hsz:(ByteArray.mk pre.toArray).size=pre.length:=rfl
   rw [Lib.spansFromP_end _ _ _ _ _ _ (by rw [hsz];omega)]
   cases st with
   | none=>simp [Lib.closeSpans,fieldsL]
   | some a =>
     have:=hst a rfl
     simp only [Lib.closeSpans,Option.map_some,fieldsL,List.map_append,List.map_cons,List.map_nil,hsz]
     rw [piece _ _ _ this (Nat.le_refl _),List.take_of_length_le (by simp)]
 | cons b r ih =>
   intro pre hs f hf st acc hst
   have hsz:(ByteArray.mk s.toArray).size=s.length:=rfl
   have hlt:pre.length<s.length:=by rw [←hs];simp
   have hb:b∈s:=by rw [←hs];simp
   obtain ⟨f,rfl⟩ : ∃ f',f=f'+1:=⟨f-1,by simp at hf;omega⟩
   have hget:(ByteArray.mk s.toArray)[pre.length]'hlt=b:=by
    show s.toArray[pre.length]=b
    subst hs
    simp
   have hdec:Utf8.decode ⟨s.toArray⟩ pre.length=(b.toNat,1):=by
    rw [decode_ascii _ _ hlt (by rw [hget];exact ha b hb),hget]
   have hbl:blankP b.toNat=decide (b=32):=by
    unfold blankP
    refine decide_eq_decide.2 ⟨fun h=>UInt8.toNat_inj.1 h,fun h=>by rw [h];rfl⟩
   have ih2:=ih (pre++[b]) (by rw [List.append_assoc];exact hs) f (by simp at hf;omega)
   rw [List.length_append,List.length_singleton] at ih2
   simp only [Lib.spansFromP]
   rw [if_pos (by rw [hsz];exact hlt)]
   simp only [hdec,hbl,decide_eq_true_eq]
   by_cases h32:b=32
   · rw [if_pos h32]
     cases st with
     | none =>
       simp only [Option.map_none,fieldsL]
       rw [if_pos h32]
       exact ih2 none acc (fun a h=>by cases h)
     | some a =>
       have haa:=hst a rfl
       simp only [Option.map_some,fieldsL]
       rw [if_pos h32,ih2 none _ (fun a h=>by cases h)]
       simp only [List.map_append,List.map_cons,List.map_nil,Option.map_none,List.append_assoc,List.singleton_append]
       rw [piece _ _ _ haa (by omega)]
       congr 2
       rw [←hs,List.drop_append_of_le_length haa,List.take_append_of_le_length (by simp),List.take_of_length_le (by simp)]
   · rw [if_neg h32]
     cases st with
     | none =>
       simp only [Option.map_none,fieldsL]
       rw [if_neg h32,ih2 (some pre.length) acc (fun a h=>by cases h;omega)]
       simp
     | some a =>
       have haa:=hst a rfl
       simp only [Option.map_some,fieldsL]
       rw [if_neg h32,ih2 (some a) acc (fun a' h=>by cases h;omega)]
       simp only [Option.map_some]
       rw [List.drop_append_of_le_length haa]

theorem words_ascii {s:List UInt8} (ha:∀ b∈s,b.toNat<128):wordsF s=fieldsL none s:=by
 have h:=fields_go ha s [] rfl s.length (Nat.le_refl _) none [] (fun a h=>by cases h)
 rw [wordsF,Lib.goFieldsP,Lib.spansOfP,List.map_map]
 exact h

theorem fieldsL_word:∀ (w r c:List UInt8),32∉w→fieldsL (some c) (w++32::r)=(c++w)::fieldsL none r
 | [],r,c,_=>by simp [fieldsL]
 | b::w,r,c,h=>by
   have hb:b≠32:=fun e=>h (by simp [e])
   rw [List.cons_append,fieldsL,if_neg hb,fieldsL_word w r (c++[b]) fun hm=>h (by simp [hm])]
   simp

theorem fieldsL_last:∀ (w c:List UInt8),32∉w→fieldsL (some c) w=[c++w]
 | [],c,_=>by simp [fieldsL]
 | b::w,c,h=>by
   have hb:b≠32:=fun e=>h (by simp [e])
   rw [fieldsL,if_neg hb,fieldsL_last w (c++[b]) fun hm=>h (by simp [hm])]
   simp

theorem fieldsL_join:∀ (ps:List (List UInt8)),(∀ p∈ps,p≠[]∧32∉p)→fieldsL none (joinB 32 ps)=ps
 | [],_=>rfl
 | [p],h=>by
   obtain ⟨h1,h2⟩:=h p (by simp)
   obtain ⟨b,w,rfl⟩:=List.exists_cons_of_ne_nil h1
   have hb:b≠32:=fun e=>h2 (by simp [e])
   rw [joinB,fieldsL,if_neg hb,fieldsL_last w [b] fun hm=>h2 (by simp [hm])]
   simp
 | p::q::ps,h=>by
   obtain ⟨h1,h2⟩:=h p (by simp)
   obtain ⟨b,w,rfl⟩:=List.exists_cons_of_ne_nil h1
   have hb:b≠32:=fun e=>h2 (by simp [e])
   rw [joinB,List.cons_append,fieldsL,if_neg hb,fieldsL_word w _ [b] fun hm=>h2 (by simp [hm]),fieldsL_join (q::ps) fun x hx=>h x (List.mem_cons_of_mem _ hx)]
   simp

theorem words_join {ps:List (List UInt8)} (h:∀ p∈ps,p≠[]∧32∉p) (ha:∀ b∈joinB 32 ps,b.toNat<128):wordsF (joinB 32 ps)=ps:=by
 rw [words_ascii ha,fieldsL_join ps h]

end Go.Mac
end

section
open Go Go.Proofs Go.Mac
set_option maxRecDepth 100000
namespace Go.Mac
section
theorem line_three {w:List UInt8} {f:FuncId} (s:List UInt8) (hs:s.length≤1000000000) (d:DZ) (r:AnsZ) (xs:List (List UInt8)) (n:Int) (hw:wordsF s=w::xs) (hyes:smHas wrdL w=true) (hz:smGet wrdL cntL w (.f (.int .i64 0))=.f (.int .i64 n)) (hf:∀ z,smGet wrdL doL w z=.bfn f 5) (hh:w≠[104,101,108,112]) (hwl:w.length≤1000)
  (hn:n=xs.length) (hxl:xs.length≤3) (hr:SaidX f d (w::xs) r) (hl:∀ t,r.2=.ok t→t.length≤1000000000) (he:∀ e,r.2=.error e→okEZ e):LineX d s (tellD w r) :=
 line_yes s hs d w xs n f r hw hyes hz hf (fun _=>hn) (fun h=>by omega) (by omega) (by omega) hwl hh hr hl he

theorem line_barrier (s:List UInt8) (hs:s.length≤1000000000) (d:DZ) (r:AnsZ) (a b c:List UInt8) (hw:wordsF s=[[98,97,114,114,105,101,114],a,b,c]) (hr:SaidX 56 d [[98,97,114,114,105,101,114],a,b,c] r)
  (hl:∀ t,r.2=.ok t→t.length≤1000000000) (he:∀ e,r.2=.error e→okEZ e):LineX d s (tellD [98,97,114,114,105,101,114] r):=line_three s hs d r [a,b,c] 3 hw (by decide) rfl (fun _=>rfl) (by decide) (by decide) rfl (by simp) hr hl he

theorem line_finish (s:List UInt8) (hs:s.length≤1000000000) (d:DZ) (r:AnsZ) (hw:wordsF s=[[102,105,110,105,115,104]]) (hr:SaidX 59 d [[102,105,110,105,115,104]] r)
  (hl:∀ t,r.2=.ok t→t.length≤1000000000) (he:∀ e,r.2=.error e→okEZ e):LineX d s (tellD [102,105,110,105,115,104] r):=line_three s hs d r [] 0 hw (by decide) rfl (fun _=>rfl) (by decide) (by decide) rfl (by simp) hr hl he

theorem line_judge (s:List UInt8) (hs:s.length≤1000000000) (d:DZ) (r:AnsZ) (hw:wordsF s=[[106,117,100,103,101]]) (hr:SaidX 60 d [[106,117,100,103,101]] r)
  (hl:∀ t,r.2=.ok t→t.length≤1000000000) (he:∀ e,r.2=.error e→okEZ e):LineX d s (tellD [106,117,100,103,101] r):=line_three s hs d r [] 0 hw (by decide) rfl (fun _=>rfl) (by decide) (by decide) rfl (by simp) hr hl he

theorem line_state (s:List UInt8) (hs:s.length≤1000000000) (d:DZ) (r:AnsZ) (hw:wordsF s=[[115,116,97,116,101]]) (hr:SaidX 71 d [[115,116,97,116,101]] r)
  (hl:∀ t,r.2=.ok t→t.length≤1000000000) (he:∀ e,r.2=.error e→okEZ e):LineX d s (tellD [115,116,97,116,101] r):=line_three s hs d r [] 0 hw (by decide) rfl (fun _=>rfl) (by decide) (by decide) rfl (by simp) hr hl he

theorem line_phaser (s:List UInt8) (hs:s.length≤1000000000) (d:DZ) (r:AnsZ) (a:List UInt8) (xs:List (List UInt8)) (hx:xs.length≤100000000) (hw:wordsF s=[112,104,97,115,101,114]::a::xs)
  (hr:SaidX 64 d ([112,104,97,115,101,114]::a::xs) r)
  (hl:∀ t,r.2=.ok t→t.length≤1000000000) (he:∀ e,r.2=.error e→okEZ e):LineX d s (tellD [112,104,97,115,101,114] r) :=
 line_yes s hs d _ (a::xs) (-2) _ r hw (by decide) rfl (fun _=>rfl) (fun h=>absurd h (by decide)) (fun _=>by rw [List.length_cons];omega) (by decide) (by rw [List.length_cons];omega) (by decide) (by decide) hr hl he

theorem line_x (s:List UInt8) (hs:s.length≤1000000000) (d:DZ) (hw:wordsF s=[[120]]):LineX d s (d,errText (.no 3)):=line_no s hs d _ [] hw (by decide) rfl fun h=>absurd h (by decide)
end
section
def deskT:List UInt8:=[98,97,114,114,105,101,114,32,115,116,97,116,105,99,32,50,32,49,10,102,105,110,105,115,104,10,106,117,100,103,101,10,112,104,97,115,101,114,32,49,32,112,97,115,115,44,108,101,97,118,101,10,102,105,110,105,115,104,10,115,116,97,116,101,10,120,10]
def deskO:List UInt8:=[98,97,114,114,105,101,114,32,50,10,102,105,110,105,115,104,32,51,54,32,116,114,117,101,32,102,97,108,115,101,10,106,117,100,103,101,32,49,32,49,10,112,104,97,115,101,114,32,49,10,102,105,110,105,115,104,32,52,54,32,116,114,117,101,32,102,97,108,115,101,10,115,116,97,116,101,32,116,114,117,101,32,49,32,48,32,48,10,101,114,114,111,114,32,51,10]

theorem nums_2:numsZ [2]=[32,50]:=by decide +kernel
theorem nums_36:numsZ [36]=[32,51,54]:=by decide +kernel
theorem nums_46:numsZ [46]=[32,52,54]:=by decide +kernel
theorem nums_1:numsZ [1]=[32,49]:=by decide +kernel
theorem nums_11:numsZ [1,1]=[32,49,32,49]:=by decide +kernel
theorem nums_100:numsZ [1,0,0]=[32,49,32,48,32,48]:=by decide +kernel

def dzA:DZ:=⟨danceM 3 2 1,[],false⟩
def dzB:DZ:={ dzA with m:=finish dzA.m }
def dzC:DZ:=⟨mz0 [gathP [⟨9,0⟩,⟨8,0⟩]] [pkWordZ false 0 1 1],[[⟨9,0⟩,⟨8,0⟩]],true⟩
def dzD:DZ:={ dzC with m:=finish dzC.m }

theorem said_barrier:barrierD dz0 [115,116,97,116,105,99] [50] [49]=(dzA,.ok (numsZ [2])):=by
 have h1:kindV [115,116,97,116,105,99]=some 3:=by decide
 have h2:tokV [50]=some 2:=by decide +kernel
 have h3:tokV [49]=some 1:=by decide +kernel
 rw [barrierD,h1]
 dsimp only
 rw [h2]
 dsimp only
 rw [h3]
 rfl

theorem said_phaser (d:DZ):phaseD d [49] [[112,97,115,115,44,108,101,97,118,101]]=(dzC,.ok (numsZ [1])):=by
 have h1:countV [49]=.ok 1:=by
  have h3:tokV [49]=some 1:=by decide +kernel
  rw [countV,h3]
  rfl
 have h2:wordsV [[112,97,115,115,44,108,101,97,118,101]]=some [[⟨9,0⟩,⟨8,0⟩]]:=by rfl
 rw [phaseD,h1]
 dsimp only
 rw [opensD,h2]
 rfl

def fin1 (m:MZ):Bool:=m.k == 36 && allZ m && !stuckZ m && (checkZ 2 m.el).isNone && allG 2 m.el == 1 && anyR m.el == 1 && m.ps.length == 2
theorem fin1_ok:finB 80 (danceM 3 2 1) fin1=true:=by decide +kernel
def fin2x (m:MZ):Bool:=m.k == 46 && allZ m && !stuckZ m && !m.ws.isEmpty && pkRightB (gPh (m.ws.headD 0)) (gPa (m.ws.headD 0)) (gWa (m.ws.headD 0)) && gO (m.ws.headD 0) && gPh (m.ws.headD 0) == 1 && gPa (m.ws.headD 0) == 0 && gWa (m.ws.headD 0) == 0
theorem fin2x_ok:finB 200 dzC.m fin2x=true:=by decide +kernel
end
section
def nameZ:List (List UInt8):=[[104,97,108,116],[108,101,116],[99,111,112,121],[112,108,117,115],[115,117,109],[102,105,101,108,100],[108,111,97,100],[115,116,111,114,101],[102,101,116,99,104],[115,119,97,112],[106,117,109,112],[115,97,109,101],[108,101,115,115],[101,113,117,97,108],[119,97,105,116],[119,97,107,101],[115,97,121]]

section

variable {K:KP}

end

structure LineZ (s:List UInt8) (n:Nat) (ps rs:List (List UInt8)) (op:Nat) (xs:List Int) (ts:List Nat):Prop where
 parts:PartsS 32 n ps rs
 cnt:Lib.countByte s 32=n
 n20:n≤20
 sl:n≤s.length∧s.length≤1000
 r0:rs[0]? = some s
 op17:op<17
 nm:ps[0]? = some (nameZ.getD op [])
 no:∀ o,o<op→nameZ.getD o []≠nameZ.getD op []
 xl:xs.length=4
 a0:ts.getD 0 0=1
 a4:ts.getD 4 0=n+1
 arg:∀ i,i<4→fo op i=0∧xs.getD i 0=0∧ts.getD (i+1) 0=ts.getD i 0∨fo op i≠0∧ts.getD i 0<n+1∧ts.getD (i+1) 0=ts.getD i 0+1∧∃ t,ps[ts.getD i 0]? = some t∧t.length≤18∧Lib.atoi t=some (xs.getD i 0)∧Lib.itoa (xs.getD i 0)=t∧-9223372036854775808≤xs.getD i 0∧xs.getD i 0≤9223372036854775807

def insL (op:Nat) (xs:List Int):InsZ:=⟨op,xs.getD 0 0,xs.getD 1 0,xs.getD 2 0,xs.getD 3 0⟩

section

variable {K:KP}

end
end
section
def In64 (n:Int):Prop:=-9223372036854775808≤n∧n≤9223372036854775807

structure InsOk (x:InsZ):Prop where
 op:0≤x.op∧x.op<17
 a:In64 x.a
 b:In64 x.b
 c:In64 x.c
 d:In64 x.d

theorem op17 {op:Int} (h:0≤op∧op<17):op=0∨op=1∨op=2∨op=3∨op=4∨op=5∨op=6∨op=7∨op=8∨op=9∨op=10∨op=11∨op=12∨op=13∨op=14∨op=15∨op=16:=by omega
end
section
def okE (w:Int) (e:EvZ):Bool:=decide (w<e.w) && decide (1≤e.a) && decide (e.a≤3) && decide (0≤e.t) && decide (e.t<16)

def rightE:Int→List EvZ→Bool
 | _,[]=>true
 | w,e::es=>okE w e && rightE e.w es

structure Ev64 (e:EvZ):Prop where
 w:In64 e.w
 a:In64 e.a
 t:In64 e.t
 v:In64 e.v
end
section
section

variable {K:KP}

end
end
section
section

variable {K:KP}

end
end
section
section

variable {K:KP}

end
end
section
section

variable {K:KP}

end
end
section
attribute [local irreducible] drawnR

section

variable {K:KP}

end
end
section
structure TextZ (s:List UInt8) (rs:List (List UInt8)) (xs:List InsZ) (m:Nat):Prop where
 r0:rs[0]? = some s
 xl:xs.length=m
 m100:m≤100
 step:∀ k,k<m→∃ r l r' x,rs[k]? = some r∧r≠[]∧rs[k+1]? = some r'∧Lib.indexByte r 10=l.length∧l.length+1≤r.length∧r.length≤1000∧r.take l.length=l∧r.drop (l.length+1)=r'∧xs[k]? = some x ∧
  ∃ n ps rs2 op ys ts,LineZ l n ps rs2 op ys ts∧x=insL op ys
 last:rs[m]? = some []

section

variable {K:KP}

end
end
section
section

variable {K:KP}

end
end
section
section

variable {K:KP}

end
end
section
section

variable {K:KP}

end
end
section
section

variable {k n R nc:Nat} {A:Nat→AT} {V:Nat→Nat} {m:MZ}

end

section

variable {K:KP}

end
end
section
structure EvG (m:MZ):Prop where
 ps:∀ p∈m.ps,∀ i∈p,i.op=16→1≤i.a∧i.a≤3
 rt:rightE 0 m.el=true
 le:∀ e∈m.el,e.w≤m.k
 v:∀ e∈m.el,In64 e.v
end
section
theorem kind_w0 {k n R:Nat} (hk:1≤k∧k≤6) (hn:1≤n∧n≤16) (hR:R≤6):WF (danceM k n R):=by
 obtain ⟨_,_,hlen,hnc,hright,_,_⟩:=kindAll hk hn (show R≤20 by omega)
 exact mz0_wf (by omega) (by rw [List.length_replicate];exact hnc) (by rw [List.length_replicate];exact hright) fun x hx=>by rw [(List.mem_replicate.1 hx).2];omega
end
end Go.Mac
end
