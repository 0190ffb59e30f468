import Derived.Test.YtollgfhpcidkgaaGreatDoorMacFn

namespace Go.Mac
open Go

def renC (g:Nat→Nat):CV→CV
 | .ptr r f=>.ptr (g r) f
 | .rptr r i f=>.rptr (g r) i f
 | .iptr r i j f=>.iptr (g r) i j f
 | .slc r o n c nn=>.slc (g r) o n c nn
 | .islc r i o n c nn=>.islc (g r) i o n c nn
 | .map r=>.map (g r)
 | .func f cs=>.func f (cs.map g)
 | .iface t x=>.iface t (renC g x)
 | .ifs t x=>.ifs t (renC g x)
 | .bfn f r=>.bfn f (g r)
 | x=>x

def renP (g:Nat→Nat):PV→PV
 | .c x=>.c (renC g x)
 | .agg cs=>.agg (cs.map (renC g))

def renA (g:Nat→Nat):AV→AV
 | .u=>.u
 | .p x=>.p (renP g x)
 | .tup xs=>.tup (xs.map (renP g))

def renO (g:Nat→Nat):PO→PO
 | .one cs=>.one (cs.map (renC g))
 | .it d m since seen last=>.it d (g m) since seen last
 | .smap ks cs=>.smap ks (cs.map (renC g))
 | o=>o

def renCK (g:Nat→Nat) (x:CV) (k:CV→Prop):Prop :=
 match x with
 | .ptr r f=>k (.ptr (g r) f)
 | .rptr r i f=>k (.rptr (g r) i f)
 | .iptr r i j f=>k (.iptr (g r) i j f)
 | .slc r o n c nn=>k (.slc (g r) o n c nn)
 | .islc r i o n c nn=>k (.islc (g r) i o n c nn)
 | .map r=>k (.map (g r))
 | .func f cs=>k (.func f (cs.map g))
 | .iface t x=>k (.iface t (renC g x))
 | .ifs t x=>k (.ifs t (renC g x))
 | .bfn f r=>k (.bfn f (g r))
 | .junk=>k .junk
 | .f x=>k (.f x)
 | .nilptr=>k .nilptr
 | .nilslc=>k .nilslc
 | .dslc n=>k (.dslc n)
 | .hslc r i l n=>k (.hslc r i l n)
 | .hptr b=>k (.hptr b)
 | .yld l=>k (.yld l)
 | .gpt a i=>k (.gpt a i)
 | .nilmap=>k .nilmap
 | .nilfunc=>k .nilfunc
 | .niliface=>k .niliface

theorem renCK_eq (g:Nat→Nat) (x:CV) (k:CV→Prop):renCK g x k=k (renC g x):=by cases x <;> rfl

def mapCK (g:Nat→Nat):List CV→(List CV→Prop)→Prop
 | [],k=>k []
 | x::xs,k=>renCK g x fun y=>mapCK g xs fun ys=>k (y::ys)

theorem mapCK_eq (g:Nat→Nat):∀ (xs:List CV) (k:List CV→Prop),mapCK g xs k=k (xs.map (renC g))
 | [],_=>rfl
 | x::xs,k=>by simp [mapCK,renCK_eq,mapCK_eq g xs]

def renPK (g:Nat→Nat) (x:PV) (k:PV→Prop):Prop :=
 match x with
 | .c x=>renCK g x fun y=>k (.c y)
 | .agg cs=>mapCK g cs fun ys=>k (.agg ys)

theorem renPK_eq (g:Nat→Nat) (x:PV) (k:PV→Prop):renPK g x k=k (renP g x):=by cases x <;> simp [renPK,renP,renCK_eq,mapCK_eq]

def mapPK (g:Nat→Nat):List PV→(List PV→Prop)→Prop
 | [],k=>k []
 | x::xs,k=>renPK g x fun y=>mapPK g xs fun ys=>k (y::ys)

theorem mapPK_eq (g:Nat→Nat):∀ (xs:List PV) (k:List PV→Prop),mapPK g xs k=k (xs.map (renP g))
 | [],_=>rfl
 | x::xs,k=>by simp [mapPK,renPK_eq,mapPK_eq g xs]

def renAK (g:Nat→Nat) (x:AV) (k:AV→Prop):Prop :=
 match x with
 | .u=>k .u
 | .p x=>renPK g x fun y=>k (.p y)
 | .tup xs=>mapPK g xs fun ys=>k (.tup ys)

theorem renAK_eq (g:Nat→Nat) (x:AV) (k:AV→Prop):renAK g x k=k (renA g x):=by cases x <;> simp [renAK,renA,renPK_eq,mapPK_eq]

def renOK (g:Nat→Nat) (x:PO) (k:PO→Prop):Prop :=
 match x with
 | .one cs=>mapCK g cs fun ys=>k (.one ys)
 | .rows a b c=>k (.rows a b c)
 | .rows2 a b c=>k (.rows2 a b c)
 | .rows2m a b=>k (.rows2m a b)
 | .hnd a b c d=>k (.hnd a b c d)
 | .tab a b=>k (.tab a b)
 | .errv a=>k (.errv a)
 | .bld a b c d=>k (.bld a b c d)
 | .mp a b c d=>k (.mp a b c d)
 | .it d m since seen last=>k (.it d (g m) since seen last)
 | .smap ks cs=>mapCK g cs fun ys=>k (.smap ks ys)
 | .rows3 p a b=>k (.rows3 p a b)
 | .gone=>k .gone

theorem renOK_eq (g:Nat→Nat) (x:PO) (k:PO→Prop):renOK g x k=k (renO g x):=by cases x <;> simp [renOK,renO,mapCK_eq]

def gmap (ids:List Nat) (m:Nat) (i:Nat):Nat :=
 match nth ids i with
 | some j=>j
 | none=>m+(i-ids.length)

def setAll (g:Nat→Nat):List PO→List Nat→List PO→List PO
 | H,i::is,o::os=>setAll g (H.set i (renO g o)) is os
 | H,_,os=>H++os.map (renO g)

def catK:List PO→List PO→(List PO→Prop)→Prop
 | [],os,k=>k os
 | x::xs,os,k=>catK xs os fun l=>k (x::l)

theorem catK_eq:∀ (H os:List PO) (k:List PO→Prop),catK H os k=k (H++os)
 | [],_,_=>rfl
 | x::xs,os,k=>by simp [catK,catK_eq xs]

def mapOK (g:Nat→Nat):List PO→(List PO→Prop)→Prop
 | [],k=>k []
 | o::os,k=>renOK g o fun o'=>mapOK g os fun l=>k (o'::l)

theorem mapOK_eq (g:Nat→Nat):∀ (os:List PO) (k:List PO→Prop),mapOK g os k=k (os.map (renO g))
 | [],_=>rfl
 | o::os,k=>by simp [mapOK,renOK_eq,mapOK_eq g os]

def appK (g:Nat→Nat) (H os:List PO) (k:List PO→Prop):Prop:=mapOK g os fun os'=>catK H os' k

theorem appK_eq (g:Nat→Nat) (H os:List PO) (k:List PO→Prop):appK g H os k=k (H++os.map (renO g)):=by simp [appK,mapOK_eq,catK_eq]

def setAllK (g:Nat→Nat):List PO→List Nat→List PO→(List PO→Prop)→Prop
 | H,i::is,o::os,k=>renOK g o fun o'=>setK H i o' fun H1=>setAllK g H1 is os k
 | H,[],os,k=>appK g H os k
 | H,_::_,[],k=>appK g H [] k

theorem setAllK_eq (g:Nat→Nat):∀ (ids:List Nat) (H os:List PO) (k:List PO→Prop),setAllK g H ids os k=k (setAll g H ids os)
 | i::is,H,o::os,k=>by simp [setAllK,setAll,renOK_eq,setK_eq,setAllK_eq g is]
 | [],H,os,k=>by cases os <;> simp [setAllK,setAll,appK_eq]
 | _::_,H,[],k=>by simp [setAllK,setAll,appK_eq]

section

variable {N n:Nat} {L:Nat→Loc} {g:Nat→Nat}

theorem VC.ren (hg:∀ i,i<n→g i<N):∀ {x:CV} {v:Value},lowC n x=true→(VC N L (renC g x) v↔VC n (fun i=>L (g i)) x v)
 | .junk,_,_ | .f _,_,_ | .nilptr,_,_ | .nilslc,_,_ | .dslc _,_,_ | .hslc _ _ _ _,_,_ | .hptr _,_,_ | .yld _,_,_ | .gpt _ _,_,_ | .nilmap,_,_ | .nilfunc,_,_ | .niliface,_,_=>by simp [renC,VC]
 | .ptr r _,_,h | .rptr r _ _,_,h | .iptr r _ _ _,_,h | .slc r _ _ _ _,_,h | .islc r _ _ _ _ _,_,h | .map r,_,h | .bfn _ r,_,h=>by
   have:=blt_lt (by simpa only [lowC] using h)
   simp only [renC,VC,hg r this,this,true_and]
 | .func f cs,_,h=>by
   simp only [lowC] at h
   have:=lows_spec h
   have h1:(∀ r∈cs.map g,r<N):=fun r hr=>by
    obtain ⟨r0,h0,rfl⟩:=List.mem_map.1 hr
    exact hg _ (this _ h0)
   simp only [renC,VC,List.map_map]
   exact ⟨fun hh=>⟨this,hh.2⟩,fun hh=>⟨h1,hh.2⟩⟩
 | .iface t x,_,h | .ifs t x,_,h=>by
   simp only [lowC] at h
   simp only [renC,VC]
   constructor
   · rintro ⟨y,h1,h2⟩;exact ⟨y,h1,(VC.ren hg h).1 h2⟩
   · rintro ⟨y,h1,h2⟩;exact ⟨y,h1,(VC.ren hg h).2 h2⟩

theorem VC.bound:∀ {x:CV} {v:Value},VC n L x v→lowC n x=true
 | .junk,_,_ | .f _,_,_ | .nilptr,_,_ | .nilslc,_,_ | .dslc _,_,_ | .hslc _ _ _ _,_,_ | .hptr _,_,_ | .yld _,_,_ | .gpt _ _,_,_ | .nilmap,_,_ | .nilfunc,_,_ | .niliface,_,_=>rfl
 | .ptr r _,_,h | .rptr r _ _,_,h | .iptr r _ _ _,_,h | .slc r _ _ _ _,_,h | .islc r _ _ _ _ _,_,h | .map r,_,h | .bfn _ r,_,h=>by
   simp only [VC] at h
   simp [lowC,h.1]
 | .func f cs,_,h=>by
   simp only [VC] at h
   have:∀ cs:List Nat,(∀ r∈cs,r<n)→lowC.lows n cs=true:=by
    intro cs
    induction cs with
    | nil=>intro _;rfl
    | cons c cs ih=>intro hc;simp [lowC.lows,hc c (by simp),ih fun r hr=>hc r (by simp [hr])]
   simp [lowC,this cs h.1]
 | .iface t x,_,h | .ifs t x,_,h=>by
   simp only [VC] at h
   obtain ⟨y,_,h⟩:=h
   simp [lowC,h.bound]

theorem VCs.ren (hg:∀ i,i<n→g i<N):∀ {xs:List CV} {vs:List Value},VCs n (fun i=>L (g i)) xs vs→VCs N L (xs.map (renC g)) vs
 | [],_,h=>h
 | _::_,_,⟨y,ys,h1,h2,h3⟩=>⟨y,ys,h1,(VC.ren hg h2.bound).2 h2,VCs.ren hg h3⟩

theorem VP.ren (hg:∀ i,i<n→g i<N):∀ {x:PV} {v:Value},VP n (fun i=>L (g i)) x v→VP N L (renP g x) v
 | .c _,_,h=>(VC.ren hg (VC.bound h)).2 h
 | .agg _,_,⟨vs,h1,h2⟩=>⟨vs,h1,h2.ren hg⟩

theorem VPs.ren (hg:∀ i,i<n→g i<N):∀ {xs:List PV} {vs:List Value},VPs n (fun i=>L (g i)) xs vs→VPs N L (xs.map (renP g)) vs
 | [],_,h=>h
 | _::_,_,⟨y,ys,h1,h2,h3⟩=>⟨y,ys,h1,h2.ren hg,VPs.ren hg h3⟩

theorem VA.ren (hg:∀ i,i<n→g i<N):∀ {x:AV} {v:Value},VA n (fun i=>L (g i)) x v→VA N L (renA g x) v
 | .u,_,_=>trivial
 | .p _,_,h=>VP.ren hg h
 | .tup _,_,⟨vs,h1,h2⟩=>⟨vs,h1,h2.ren hg⟩

theorem VCs.unren (hg:∀ i,i<n→g i<N):∀ {xs:List CV} {vs:List Value},lowCs n xs=true→VCs N L (xs.map (renC g)) vs→VCs n (fun i=>L (g i)) xs vs
 | [],_,_,h=>h
 | x::xs,_,hl,⟨y,ys,h1,h2,h3⟩=>by
   simp only [lowCs,cond_eq_ite] at hl
   split at hl
   · rename_i hx;exact ⟨y,ys,h1,(VC.ren hg hx).1 h2,VCs.unren hg hl h3⟩
   · cases hl

theorem VA.unren (hg:∀ i,i<n→g i<N):∀ {x:AV} {v:Value},lowA n x=true→VA N L (renA g x) v→VA n (fun i=>L (g i)) x v
 | .u,_,_,_=>trivial
 | .p (.c _),_,hl,h=>(VC.ren hg hl).1 h
 | .p (.agg _),_,hl,⟨vs,h1,h2⟩=>⟨vs,h1,h2.unren hg hl⟩
 | .tup xs,_,hl,⟨vs,h1,h2⟩=>by
   refine ⟨vs,h1,?_⟩
   clear h1
   replace hl:lowPs n xs=true:=hl
   induction xs generalizing vs with
   | nil=>exact h2
   | cons x xs ih =>
     obtain ⟨y,ys,h3,h4,h5⟩:=h2
     simp only [lowPs,cond_eq_ite] at hl
     split at hl
     · rename_i hx
       refine ⟨y,ys,h3,?_,ih _ h5 hl⟩
       cases x with
       | c x=>exact (VC.ren hg hx).1 h4
       | agg cs=>obtain ⟨us,h6,h7⟩:=h4;exact ⟨us,h6,h7.unren hg hx⟩
     · cases hl

theorem lowCs_get:∀ {cs:List CV} {f:Nat} {x:CV},lowCs n cs=true→cs[f]? = some x→lowC n x=true
 | [],f,x,_,hf=>by simp at hf
 | c::cs,f,x,hc,hf=>by
   simp only [lowCs,cond_eq_ite] at hc
   split at hc
   · rename_i hc0
     cases f with
     | zero=>simp at hf;subst hf;exact hc0
     | succ f=>exact lowCs_get hc (by simpa using hf)
   · cases hc

theorem OR.ren (hg:∀ i,i<n→g i<N) {w:World} {o:PO} {l:Loc} (h:OR n (fun i=>L (g i)) w o l):OR N L w (renO g o) l:=by
 cases o with
 | one cs =>
   obtain ⟨h1,h2,h3,h4,h5⟩:=h
   refine ⟨h1,by simpa using h2,by simpa using h3,by simpa using h4,fun f x hx=>?_⟩
   rw [List.getElem?_map,Option.map_eq_some_iff] at hx
   obtain ⟨x0,hx0,rfl⟩:=hx
   obtain ⟨v,hv,hvr⟩:=h5 f x0 hx0
   exact ⟨v,hv,(VC.ren hg hvr.bound).2 hvr⟩
 | rows _ _ _=>exact h
 | rows2 _ _ _=>exact h
 | rows2m _ _=>exact h
 | hnd _ _ _ _=>exact h
 | tab _ _=>exact h
 | errv _=>exact h
 | bld _ _ _ _=>exact h
 | mp _ _ _ _=>exact h
 | smap ks cs =>
   obtain ⟨vs,h1,h2,h3⟩:=h
   exact ⟨vs,h1,by rw [List.length_map];exact h2,h3.ren hg⟩
 | it d m since seen last =>
   obtain ⟨h0,h1,h2⟩:=h
   exact ⟨h0,h1,fun hd=>⟨hg m (h2 hd).1,(h2 hd).2⟩⟩
 | rows3 _ _ _=>exact h
 | gone=>exact h

theorem OR.unren (hg:∀ i,i<n→g i<N) {w:World} {o:PO} {l:Loc} (hl:lowO n o=true) (h:OR N L w (renO g o) l):OR n (fun i=>L (g i)) w o l:=by
 cases o with
 | one cs =>
   obtain ⟨h1,h2,h3,h4,h5⟩:=h
   refine ⟨h1,by simpa using h2,by simpa using h3,by simpa using h4,fun f x hx=>?_⟩
   obtain ⟨v,hv,hvr⟩:=h5 f (renC g x) (by rw [List.getElem?_map,hx];rfl)
   exact ⟨v,hv,(VC.ren hg (lowCs_get hl hx)).1 hvr⟩
 | rows _ _ _=>exact h
 | rows2 _ _ _=>exact h
 | rows2m _ _=>exact h
 | hnd _ _ _ _=>exact h
 | tab _ _=>exact h
 | errv _=>exact h
 | bld _ _ _ _=>exact h
 | mp _ _ _ _=>exact h
 | smap ks cs =>
   obtain ⟨vs,h1,h2,h3⟩:=h
   exact ⟨vs,h1,by rw [List.length_map] at h2;exact h2,h3.unren hg hl⟩
 | it d m since seen last =>
   obtain ⟨h0,h1,h2⟩:=h
   refine ⟨h0,h1,fun hd=>⟨?_,(h2 hd).2⟩⟩
   subst hd
   simpa [lowO,Nat.blt_eq] using hl
 | rows3 _ _ _=>exact h
 | gone=>exact h

theorem Own_ren {o:PO} {l:Loc} {b:Nat}:Own (renO g o) l b↔Own o l b:=by cases o <;> exact Iff.rfl
theorem Ro_ren {o:PO} {l:Loc} {b:Nat}:Ro (renO g o) l b↔Ro o l b:=by cases o <;> exact Iff.rfl

end

theorem gmap_some {ids:List Nat} {m i j:Nat} (h:ids[i]? = some j):gmap ids m i=j:=by simp [gmap,nth_eq,h]
theorem gmap_ge {ids:List Nat} {m i:Nat} (h:ids.length≤i):gmap ids m i=m+(i-ids.length):=by simp [gmap,nth_eq,h]

theorem nodup_inj:∀ {ids:List Nat} (_:ids.Nodup) {a b j:Nat},ids[a]? = some j→ids[b]? = some j→a=b
 | [],_,a,b,j,h,_=>by simp at h
 | i::is,hnd,0,0,j,_,_=>rfl
 | i::is,hnd,0,b+1,j,h,h'=>by
   simp at h h';subst h
   exact absurd (List.mem_of_getElem? h') (List.nodup_cons.1 hnd).1
 | i::is,hnd,a+1,0,j,h,h'=>by
   simp at h h';subst h'
   exact absurd (List.mem_of_getElem? h) (List.nodup_cons.1 hnd).1
 | i::is,hnd,a+1,b+1,j,h,h'=>by
   simp at h h'
   rw [nodup_inj (List.nodup_cons.1 hnd).2 h h']

theorem gmap_inj {ids:List Nat} {m:Nat} (hnd:ids.Nodup) (hlt:∀ i∈ids,i<m) {a b:Nat} (h:gmap ids m a=gmap ids m b):a=b:=by
 rcases Nat.lt_or_ge a ids.length with ha | ha <;> rcases Nat.lt_or_ge b ids.length with hb | hb
 · have h1:ids[a]? = some ids[a]:=by simp [ha]
   have h2:ids[b]? = some ids[b]:=by simp [hb]
   rw [gmap_some h1,gmap_some h2] at h
   exact nodup_inj hnd h1 (by rw [h2,h])
 · have h1:ids[a]? = some ids[a]:=by simp [ha]
   rw [gmap_some h1,gmap_ge hb] at h
   have:=hlt _ (List.getElem_mem ha)
   omega
 · have h2:ids[b]? = some ids[b]:=by simp [hb]
   rw [gmap_some h2,gmap_ge ha] at h
   have:=hlt _ (List.getElem_mem hb)
   omega
 · rw [gmap_ge ha,gmap_ge hb] at h;omega

theorem setAll_get (g:Nat→Nat):∀ (ids:List Nat) (os H:List PO),ids.length≤os.length→ids.Nodup→(∀ i∈ids,i<H.length) →
 (setAll g H ids os).length=H.length+(os.length-ids.length) ∧
 (∀ k j:Nat,ids[k]? = some j→(setAll g H ids os)[j]? = (os[k]?).map (renO g))∧(∀ j:Nat,j∉ids→j<H.length→(setAll g H ids os)[j]? = H[j]?) ∧
 ∀ k,ids.length≤k→(setAll g H ids os)[H.length+(k-ids.length)]? = (os[k]?).map (renO g)
 | [],os,H,_,_,_=>by
   have:setAll g H [] os=H++os.map (renO g):=by cases os <;> rfl
   rw [this]
   refine ⟨by simp,fun k j hk=>by simp at hk,fun j _ hj=>List.getElem?_append_left hj,fun k _=>?_⟩
   rw [List.getElem?_append_right (by simp)]
   simp
 | i::is,[],H,hl,_,_=>by simp at hl
 | i::is,o::os,H,hl,hnd,hlt=>by
   simp only [List.nodup_cons] at hnd
   obtain ⟨h1,h2,h3,h4⟩:=setAll_get g is os (H.set i (renO g o)) (by simpa using hl) hnd.2 (fun k hk=>by simpa using hlt k (by simp [hk]))
   simp only [List.length_set] at h1 h3 h4
   simp only [setAll]
   refine ⟨by rw [h1];simp,fun k j hk=>?_,fun j hj hjl=>?_,fun k hk=>?_⟩
   · cases k with
     | zero =>
       simp at hk;subst hk
       rw [h3 i hnd.1 (hlt i (by simp)),List.getElem?_set_self (hlt i (by simp))]
       rfl
     | succ k=>simp at hk ⊢;exact h2 k j hk
   · simp only [List.mem_cons,not_or] at hj
     rw [h3 j hj.2 hjl,List.getElem?_set_ne (Ne.symm hj.1)]
   · cases k with
     | zero=>simp at hk
     | succ k=>simpa using h4 k (by simpa using hk)

section

variable {B R:Nat→Prop} {w0:World} {L:Nat→Loc} {H:List PO} {w:World} {P:Program}

theorem Rel.frame (h:Rel B R w0 L H w) (ids:List Nat) (hnd:ids.Nodup) (hlt:∀ i∈ids,i<H.length) (Hl:List PO) (hl:Hl.length=ids.length) (hlo:lowH ids.length Hl=true)
 (hH:∀ (k j:Nat) (o:PO),ids[k]? = some j→Hl[k]? = some o→H[j]? = some (renO (gmap ids H.length) o)) :
 ∃ B':Nat→Prop,Rel B' R w (fun i=>L (gmap ids H.length i)) Hl w ∧
   ∀ (M:List Nat) (Ll:Nat→Loc) (Hl':List PO) (w':World),Agree ids.length M (fun i=>L (gmap ids H.length i)) Ll→Rel B' R w Ll Hl' w'→ids.length≤Hl'.length →
     ∃ L',Agree H.length (M.map (gmap ids H.length)) L L'∧(∀ i,Ll i=L' (gmap ids H.length i))∧Rel B R w0 L' (setAll (gmap ids H.length) (H.map (killO (M.map (gmap ids H.length)))) ids Hl') w':=by
 have hgl:∀ i,i<ids.length→∃ j,ids[i]? = some j∧gmap ids H.length i=j∧j<H.length:=fun i hi=>by
  have h1:ids[i]? = some ids[i]:=by simp [hi]
  exact ⟨_,h1,gmap_some h1,hlt _ (List.getElem_mem hi)⟩
 have hinj:∀ {a b:Nat},gmap ids H.length a=gmap ids H.length b→a=b:=fun e=>gmap_inj hnd hlt e
 refine ⟨fun k=>k<w.heap.size∧∀ i∈ids,∀ o,H[i]? = some o→¬Own o (L i) k,?_,?_⟩
 · refine ⟨Bel.refl _ _,fun k hk=>hk.1,fun i o ho=>?_,fun i o b ho hb=>?_,fun i o b ho hb=>?_,fun b hb=>⟨h.size b (h.sub b hb),fun i _ o ho hown=>(h.own i o b ho hown).1 (h.sub b hb)⟩⟩
   all_goals
    have hi:i<ids.length:=by rw [←hl];exact (List.getElem?_eq_some_iff.1 ho).1
    obtain ⟨j,hj,hgj,hjl⟩:=hgl i hi
    have hoj:=hH i j o hj ho
   · have:=h.obj j _ hoj
     rw [hl]
     simp only [hgj]
     exact OR.unren (fun k hk=>by obtain ⟨_,_,e,hh⟩:=hgl k hk;omega) (lowH_spec hlo o (List.mem_of_getElem? ho)) this
   · simp only [hgj] at hb
     obtain ⟨h1,h2,h3⟩:=h.own j _ b hoj (Own_ren.2 hb)
     refine ⟨fun hB=>hB.2 j (List.mem_of_getElem? hj) _ hoj (Own_ren.2 hb),h2,fun k o' ho' hb'=>?_⟩
     have hk:k<ids.length:=by rw [←hl];exact (List.getElem?_eq_some_iff.1 ho').1
     obtain ⟨j',hj',hgj',_⟩:=hgl k hk
     simp only [hgj'] at hb'
     have:=h3 j' _ (hH k j' o' hj' ho') (Own_ren.2 hb')
     subst this
     exact nodup_inj hnd hj' hj
   · simp only [hgj] at hb
     exact h.ro j _ b hoj (Ro_ren.2 hb)
 · intro M Ll Hl' w' hag hrel hlen
   obtain ⟨s1,s2,s3,s4⟩:=setAll_get (gmap ids H.length) ids Hl' (H.map (killO (M.map (gmap ids H.length)))) hlen hnd (by simpa using hlt)
   simp only [List.length_map] at s1 s3 s4
   -- the place in the part of a place in the whole
   obtain ⟨u,hu1,hu2⟩ : ∃ u:Nat→Option Nat,(∀ i,u (gmap ids H.length i)=some i)∧∀ j i,u j=some i→gmap ids H.length i=j:=by
    classical
    refine ⟨fun j=>if h:∃ i,gmap ids H.length i=j then some (Classical.choose h) else none,fun i=>?_,fun j i hji=>?_⟩
    · have hex:∃ k,gmap ids H.length k=gmap ids H.length i:=⟨i,rfl⟩
      simp only [dif_pos hex]
      exact congrArg some (hinj (Classical.choose_spec hex))
    · by_cases hex:∃ k,gmap ids H.length k=j
      · simp only [dif_pos hex,Option.some.injEq] at hji
        rw [←hji];exact Classical.choose_spec hex
      · simp only [dif_neg hex] at hji;cases hji
   let L':Nat→Loc:=fun j=>match u j with | some i=>Ll i | none=>L j
   have hL'g:∀ i,L' (gmap ids H.length i)=Ll i:=fun i=>by simp only [L',hu1]
   have hL'n:∀ j,u j=none→L' j=L j:=fun j hj=>by simp only [L',hj]
   have hLL:(fun i=>L' (gmap ids H.length i))=Ll:=funext hL'g
   have hnone:∀ j,u j=none→j∉ids∧j<H.length:=by
    intro j hj
    refine ⟨fun hm=>?_,?_⟩
    · obtain ⟨k,hk⟩:=List.mem_iff_getElem?.1 hm
      have:=hu1 k
      rw [gmap_some hk,hj] at this
      cases this
    · rcases Nat.lt_or_ge j H.length with h | h
      · exact h
      · have:=hu1 (ids.length+(j-H.length))
        rw [gmap_ge (by omega),show H.length+(ids.length+(j-H.length)-ids.length)=j by omega,hj] at this
        cases this
   have hget:∀ i,(setAll (gmap ids H.length) (H.map (killO (M.map (gmap ids H.length)))) ids Hl')[gmap ids H.length i]? = (Hl'[i]?).map (renO (gmap ids H.length)):=by
    intro i
    rcases Nat.lt_or_ge i ids.length with hi | hi
    · obtain ⟨j,hj,hgj,_⟩:=hgl i hi
      rw [hgj];exact s2 i j hj
    · rw [gmap_ge hi];exact s4 i hi
   have hgo:∀ j,u j=none→(setAll (gmap ids H.length) (H.map (killO (M.map (gmap ids H.length)))) ids Hl')[j]? = (H[j]?).map (killO (M.map (gmap ids H.length))):=fun j hj=>by
    rw [s3 j (hnone j hj).1 (hnone j hj).2,List.getElem?_map]
   have hag':Agree H.length (M.map (gmap ids H.length)) L L':=by
    intro j hj hm
    cases hu:u j with
    | none=>exact hL'n j hu
    | some i =>
      have:=hu2 j i hu
      subst this
      rw [hL'g]
      have hi:i<ids.length:=by
       rcases Nat.lt_or_ge i ids.length with hi | hi
       · exact hi
       · rw [gmap_ge hi] at hj;omega
      exact hag i hi fun hiM=>hm (List.mem_map.2 ⟨i,hiM,rfl⟩)
   refine ⟨L',hag',fun i=>(hL'g i).symm,?_⟩
   have hgN:∀ i,i<Hl'.length→gmap ids H.length i<(setAll (gmap ids H.length) (H.map (killO (M.map (gmap ids H.length)))) ids Hl').length:=by
    intro i hi
    have:=hget i
    rw [show Hl'[i]? = some Hl'[i] by simp [hi]] at this
    exact (List.getElem?_eq_some_iff.1 this).1
   -- blocks of the others are as they were
   have hold:∀ j o b,u j=none→H[j]? = some o→Own o (L j) b→b<w.heap.size∧∀ i∈ids,∀ o,H[i]? = some o→¬Own o (L i) b:=by
    intro j o b hj ho hb
    obtain ⟨_,h2,h3⟩:=h.own j o b ho hb
    refine ⟨h2,fun i hi o' ho' hb'=>?_⟩
    have:=h3 i o' ho' hb'
    subst this
    exact (hnone i hj).1 hi
   have hBB:∀ k,B k→k<w.heap.size∧∀ i∈ids,∀ o,H[i]? = some o→¬Own o (L i) k:=fun k hk =>
    ⟨h.size _ hk,fun i _ o ho hown=>(h.own i o k ho hown).1 hk⟩
   refine ⟨h.below.trans ⟨hrel.below.os,hrel.below.tape,hrel.below.output,hrel.below.size,fun k hk=>hrel.below.block k (hBB k hk)⟩,h.start,?_,?_,?_,h.sub⟩
   · intro j o ho
     cases hj:u j with
     | some i =>
       have:=hu2 j i hj
       subst this
       rw [hget,Option.map_eq_some_iff] at ho
       obtain ⟨o0,ho0,rfl⟩:=ho
       have:=hrel.obj i o0 ho0
       rw [←hL'g i,←hLL] at this
       exact OR.ren (L:=L') (fun k hk=>hgN k hk) this
     | none =>
       rw [hgo j hj,Option.map_eq_some_iff] at ho
       obtain ⟨o,ho,rfl⟩:=ho
       rw [hL'n j hj]
       exact (h.obj j o ho).mono (M:=M.map (gmap ids H.length)) (N':=(setAll (gmap ids H.length) (H.map (killO (M.map (gmap ids H.length)))) ids Hl').length) (L':=L') (w':=w') (by rw [s1];omega) hag' fun b hb=>by
        rcases hb with hb | hb
        · exact hrel.below.block b (hold j o b hj ho hb)
        · exact hrel.below.block b (hBB b (h.sub b (h.ro j o b ho hb)))
   · intro j o b ho hb
     cases hj:u j with
     | some i =>
       have:=hu2 j i hj
       subst this
       rw [hget,Option.map_eq_some_iff] at ho
       obtain ⟨o0,ho0,rfl⟩:=ho
       rw [hL'g,Own_ren] at hb
       obtain ⟨h1,h2,h3⟩:=hrel.own i o0 b ho0 hb
       refine ⟨fun hB=>h1 (hBB b hB),h2,fun k o' ho' hb'=>?_⟩
       cases hk:u k with
       | some i' =>
         have:=hu2 k i' hk
         subst this
         rw [hget,Option.map_eq_some_iff] at ho'
         obtain ⟨o1,ho1,rfl⟩:=ho'
         rw [hL'g,Own_ren] at hb'
         rw [h3 i' o1 ho1 hb']
       | none =>
         rw [hgo k hk,Option.map_eq_some_iff] at ho'
         obtain ⟨o',ho',rfl⟩:=ho'
         rw [hL'n k hk,Own_kill] at hb'
         exact absurd (hold k o' b hk ho' hb') h1
     | none =>
       rw [hgo j hj,Option.map_eq_some_iff] at ho
       obtain ⟨o,ho,rfl⟩:=ho
       rw [hL'n j hj,Own_kill] at hb
       obtain ⟨h1,h2,h3⟩:=h.own j o b ho hb
       have hsz:=hrel.below.size
       refine ⟨h1,by omega,fun k o' ho' hb'=>?_⟩
       cases hk:u k with
       | some i' =>
         have:=hu2 k i' hk
         subst this
         rw [hget,Option.map_eq_some_iff] at ho'
         obtain ⟨o1,ho1,rfl⟩:=ho'
         rw [hL'g,Own_ren] at hb'
         exact absurd (hold j o b hj ho hb) (hrel.own i' o1 b ho1 hb').1
       | none =>
         rw [hgo k hk,Option.map_eq_some_iff] at ho'
         obtain ⟨o',ho',rfl⟩:=ho'
         rw [hL'n k hk,Own_kill] at hb'
         exact h3 k o' ho' hb'
   · intro j o b ho hb
     cases hj:u j with
     | some i =>
       have:=hu2 j i hj
       subst this
       rw [hget,Option.map_eq_some_iff] at ho
       obtain ⟨o0,ho0,rfl⟩:=ho
       rw [hL'g,Ro_ren] at hb
       exact hrel.ro i o0 b ho0 hb
     | none =>
       rw [hgo j hj,Option.map_eq_some_iff] at ho
       obtain ⟨o,ho,rfl⟩:=ho
       rw [hL'n j hj,Ro_kill] at hb
       exact h.ro j o b ho hb

def mapM (g:Nat→Nat) (M:List Nat) (k:List Nat→Prop):Prop :=
 match M with
 | []=>k []
 | M=>k (M.map g)

theorem mapM_eq (g:Nat→Nat) (M:List Nat) (k:List Nat→Prop):mapM g M k=k (M.map g):=by cases M <;> rfl

def lowAs (n:Nat):List AV→Bool
 | []=>true
 | x::xs=>bif lowA n x then lowAs n xs else false

theorem Does.frame {f:FuncId} {args:List AV} {K:KP} (m:Nat) (ids:List Nat) (Hl:List PO) (argsl:List AV)
 (h:Does P f argsl Hl fun x M Hl'=>mapM (gmap ids m) M fun Mg=>killHK Mg H fun H0=>setAllK (gmap ids m) H0 ids Hl' fun H'=>renAK (gmap ids m) x fun y=>K y Mg H')
 (hm:H.length=m) (hn:ids.Nodup) (hlt:∀ i∈ids,i<m) (hl:Hl.length=ids.length) (hlo:lowH ids.length Hl=true) (hla:lowAs ids.length argsl=true)
 (hH:(ids.map fun i=>H[i]?)=Hl.map fun o=>some (renO (gmap ids m) o)) (ha:args=argsl.map (renA (gmap ids m))):Does P f args H K:=by
 subst hm
 refine ⟨h.fn,fun B R w0 L w vs hrel hvs=>?_⟩
 obtain ⟨B',hrel',hback⟩:=hrel.frame ids hn hlt Hl hl hlo fun k j o hk ho=>by
  have:=congrArg (·[k]?) hH
  simp only [List.getElem?_map,hk,ho,Option.map_some,Option.some.injEq] at this
  exact this
 have hgN:∀ i,i<ids.length→gmap ids H.length i<H.length:=fun i hi=>by
  rw [gmap_some (j:=ids[i]) (by simp [hi])]
  exact hlt _ (List.getElem_mem hi)
 have hvsl:VAs Hl.length (fun i=>L (gmap ids H.length i)) argsl vs:=by
  subst ha
  rw [hl]
  clear h hH
  induction argsl generalizing vs with
  | nil=>exact hvs
  | cons x xs ih =>
    obtain ⟨y,ys,h1,h2,h3⟩:=hvs
    simp only [lowAs,cond_eq_ite] at hla
    split at hla
    · rename_i hx
      exact ⟨y,ys,h1,VA.unren hgN hx h2,ih hla _ h3⟩
    · cases hla
 refine (h.run B' R w _ w vs hrel' hvsl).mono ?_
 rintro e w' ⟨v,rfl,Ll,x,M,Hl',h1,h2,h3,h4,h5⟩
 rw [hl] at h1 h2
 obtain ⟨L',k1,k2,k3⟩:=hback M Ll Hl' w' h1 h4 h2
 simp only [mapM_eq,killHK_eq,setAllK_eq,renAK_eq] at h5
 obtain ⟨s1,s2,s3,s4⟩:=setAll_get (gmap ids H.length) ids Hl' (H.map (killO (M.map (gmap ids H.length)))) h2 hn (by simpa using hlt)
 simp only [List.length_map] at s1
 refine ⟨v,rfl,L',_,_,_,k1,by rw [s1];omega,?_,k3,h5⟩
 have hLl:Ll=fun i=>L' (gmap ids H.length i):=funext k2
 rw [hLl] at h3
 refine VA.ren (fun i hi=>?_) h3
 rw [s1]
 rcases Nat.lt_or_ge i ids.length with hi' | hi'
 · have:=hgN i hi';omega
 · rw [gmap_ge hi'];omega

end

end Go.Mac
