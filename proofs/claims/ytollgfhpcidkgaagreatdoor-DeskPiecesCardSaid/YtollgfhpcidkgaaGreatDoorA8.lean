/- Texts that belong together; the first of them:  -/
import Derived.Test.YtollgfhpcidkgaaGreatDoorA7
import Derived.Test.YtollgfhpcidkgaaGreatDoorProg
import Derived.Test.YtollgfhpcidkgaaGreatDoorA3

section
open Go Go.Proofs Go.Mac
set_option maxRecDepth 100000
namespace Go.Mac
section
abbrev wH (c n:Int) (m:Nat) (nn:Bool) (out:List Int):List PO:=[.one [.f (.int .i64 c)],.one [.slc 3 0 m none nn],.one [.f (.int .i64 n)],.rows false 1 (out.map rowZ)]

section

variable {K:KP}

theorem wake1 (x:Slp) (c n:Int) {m:Nat} {nn:Bool} {out:List Int} (hm:out.length=m) (hb:m<1000000)
 (h1:x.c=c∧(m:Int)<n→K (bl true) [3] (wH c n (m+1) nn (out++[x.t]))) (h0:¬(x.c=c∧(m:Int)<n)→K (bl false) [3] (wH c n m nn out)) :
 Does Tryz.prog 279 [.p (.agg [.f (.int .i64 x.t),.f (.int .i64 x.c)]),cv (.ptr 0 0),cv (.ptr 1 0),cv (.ptr 2 0)] (wH c n m nn out) K:=by
 refine Does.moved [3] ?_
 refine does Tryz.func279 rfl (by decide) ?_
 refine bZ (fun h=>?_) (fun h=>?_)
 · exact ⟨noM,h0 fun e=>by simp [e.1] at h⟩
 refine bZ (fun h'=>?_) (fun h'=>?_)
 · exact ⟨noM,h0 fun e=>by simp at h';omega⟩
 · have:=h1 ⟨by simpa using h,by simpa using h'⟩
   refine And.intro (by simp) (Or.inl (And.intro rfl (And.intro (by simp;omega) (And.intro ?_ (And.intro ?_ ?_)))))
   · show (m+1)*8≤_
     omega
   · show m+1≤_
     omega
   · refine And.intro (fun i hi=>hi) ?_
     unfold wH at this
     rw [show (out++[x.t]).map rowZ=out.map rowZ++[rowZ x.t] from List.map_append] at this
     exact this

def wakeL (c n:Int):Nat→List Slp→List Int×List Slp
 | _,[]=>([],[])
 | m,x::xs=>if x.c=c∧(m:Int)<n then (x.t::(wakeL c n (m+1) xs).1,(wakeL c n (m+1) xs).2) else ((wakeL c n m xs).1,x::(wakeL c n m xs).2)

theorem wakeL_snoc (c n:Int) (x:Slp):∀ (l:List Slp) (m:Nat),wakeL c n m (l++[x])=if x.c=c∧((m+(wakeL c n m l).1.length:Nat):Int)<n then ((wakeL c n m l).1++[x.t],(wakeL c n m l).2) else ((wakeL c n m l).1,(wakeL c n m l).2++[x])
 | [],m=>by
   by_cases hx:x.c=c∧(m:Int)<n <;> simp [wakeL,hx]
 | y::l,m=>by
   simp only [List.cons_append,wakeL]
   by_cases hy:y.c=c∧(m:Int)<n
   · simp only [hy,if_pos,wakeL_snoc c n x l (m+1),and_self]
     have:m+1+(wakeL c n (m+1) l).1.length=m+((wakeL c n (m+1) l).1.length+1):=by omega
     simp only [this,List.length_cons]
     split <;> simp
   · simp only [hy,if_neg,wakeL_snoc c n x l m,not_false_eq_true]
     split <;> simp

theorem wakeL_take (c n:Int) (ss:List Slp) (i:Nat) (x:Slp) (h:ss[i]? = some x) :
 wakeL c n 0 (ss.take (i+1))=if x.c=c∧((wakeL c n 0 (ss.take i)).1.length:Int)<n then ((wakeL c n 0 (ss.take i)).1++[x.t],(wakeL c n 0 (ss.take i)).2) else ((wakeL c n 0 (ss.take i)).1,(wakeL c n 0 (ss.take i)).2++[x]):=by
 have:ss.take (i+1)=ss.take i++[x]:=by rw [List.take_add_one,h];rfl
 rw [this,wakeL_snoc]
 simp

theorem wakeL_len (c n:Int):∀ (l:List Slp) (m:Nat),(wakeL c n m l).1.length+(wakeL c n m l).2.length=l.length
 | [],m=>by simp [wakeL]
 | y::l,m=>by
   simp only [wakeL]
   have h1:=wakeL_len c n l (m+1)
   have h2:=wakeL_len c n l m
   split <;> simp <;> omega

abbrev dH (c n:Int) (all:List Slp) (m:Nat) (nn:Bool) (out:List Int):List PO:=[.rows false 2 (all.map rowS),.one [.f (.int .i64 c)],.one [.slc 4 0 m none nn],.one [.f (.int .i64 n)],.rows false 1 (out.map rowZ)]

theorem wakeIndex {ss all:List Slp} {nn:Bool} (c n:Int) {k:Nat} {b:Bool} (hk:ss.length=k) (hn:k<1000000) (hall:∀ i,i<k→all[i]? = ss[i]?)
 (h1:∀ (i:Nat) (x:Slp),ss[i]? = some x→wakeL c n 0 (ss.take i)=([],ss.take i)→wakeL c n 0 (ss.take (i+1))=([x.t],ss.take i)→K (i64 i) [4] (dH c n all 1 b [x.t]))
 (h0:wakeL c n 0 ss=([],ss)→K (i64 (-1)) [4] (dH c n all 0 b [])) :
 Does Tryz.prog 245 [cv (.slc 0 0 k none nn),cv (.func 279 [1,2,3])] (dH c n all 0 b []) K:=by
 refine Does.moved [4] ?_
 refine does Tryz.func245 rfl (by decide) ?_
 refine SS.loop (fun i:Nat=>i≤k∧wakeL c n 0 (ss.take i)=([],ss.take i)) (fun i=>[(0,cv (.slc 0 0 k none nn)),(1,cv (.func 279 [1,2,3])),(7,i64 k),(8,i64 i)]) (fun _=>dH c n all 0 b []) (fun i=>k-i) [4]
  (At.mk' [0,1,7,8] 0 (by simp [wakeL]) ⟨rfl,rfl⟩ rfl rfl (by simp) (by simp) (by simp)) ?_
 rintro i ⟨hi,hj⟩
 refine S_r ?_
 refine bZ (fun h=>?_) (fun h=>?_)
 · have hlt:i<k:=by have:=oTr h;omega
   obtain ⟨x,hx⟩ : ∃ x,ss[i]? = some x:=⟨_,List.getElem?_eq_getElem (by omega)⟩
   have hax:=(hall i hlt).trans hx
   have hw:=wakeL_take c n ss i x hx
   rw [hj] at hw
   refine SS.inlR ?_
   refine at2 (by omega) (by omega) (rdA (rowS x) (by simp [hax]) ?_)
   change Does Tryz.prog 279 _ _ _
   refine Does.on 5 [1,2,3,4] _ _ (wake1 (m:=0) (nn:=b) (out:=[]) x c n rfl (by simp) (fun h'=>?_) fun h'=>?_)
   · rw [if_pos (by simpa using h')] at hw
     exact ⟨by decide,h1 i x hx hj hw⟩
   · rw [if_neg (by simpa using h')] at hw
     refine At.mk' [0,1,7,8] (i+1) ⟨⟨hlt,?_⟩,by omega⟩ ⟨?_,rfl⟩ rfl rfl (by first | decide | simp) (by first | decide | simp) (by first | decide | simp)
     · rw [hw,List.take_add_one,hx]
       rfl
     · rw [wrap_i64 _ (by omega) (by omega)]
       rfl
 · have h:=oFa h
   obtain rfl:k=i:=by omega
   rw [List.take_of_length_le (by omega)] at hj
   exact ⟨by decide,h0 hj⟩

theorem wakeDelete {ss ex:List Slp} {nn:Bool} (c n:Int) {k:Nat} {b:Bool} (hk:ss.length=k) (hn:k<1000000) (hex:ex≠[]→nn=true)
 (h:∀ (nn' b':Bool) (ex':List Slp),(ex'≠[]→nn'=true)→K (cv (.slc 0 0 (wakeL c n 0 ss).2.length none nn')) [4] (dH c n ((wakeL c n 0 ss).2++ex') (wakeL c n 0 ss).1.length b' (wakeL c n 0 ss).1)) :
 Does Tryz.prog 278 [cv (.slc 0 0 k none nn),cv (.func 279 [1,2,3])] (dH c n (ss++ex) 0 b []) K:=by
 refine Does.moved [4] ?_
 refine does Tryz.func278 rfl (by decide) ?_
 change Does Tryz.prog 245 _ _ _
 refine wakeIndex (ss:=ss) c n hk hn (fun i hi=>List.getElem?_append_left (by omega)) (fun i x hx h1 h2=>?_) fun h0=>?_
 · have hi:=(List.getElem?_eq_some_iff.1 hx).1
   refine SS.loop (fun p:Nat×List Slp=>p.1≤k∧(wakeL c n 0 (ss.take p.1)).2.length+p.2.length=p.1∧1≤p.2.length)
    (fun p=>[(0,cv (.slc 0 0 k none nn)),(1,cv (.func 279 [1,2,3])),(5,i64 (wakeL c n 0 (ss.take p.1)).2.length),(6,i64 p.1)])
    (fun p=>dH c n ((wakeL c n 0 (ss.take p.1)).2++p.2++(ss.drop p.1++ex)) (wakeL c n 0 (ss.take p.1)).1.length b (wakeL c n 0 (ss.take p.1)).1) (fun p=>k-p.1) [4]
    (At.mk' [0,1,5,6] (i+1,[x]) ⟨by show i+1≤k;omega,by rw [h2];simp;omega,by simp⟩ ⟨?_,rfl⟩ ?_ rfl (by simp) (by first | decide | simp) (by first | decide | simp)) ?_
   · simp only [h2,List.length_take]
     have:min i ss.length=i:=by omega
     rw [this,wrap_i64 _ (by omega) (by omega)]
     rfl
   · show dH c n (ss++ex) 1 b [x.t]=dH c n ((wakeL c n 0 (ss.take (i+1))).2++[x]++(ss.drop (i+1)++ex)) (wakeL c n 0 (ss.take (i+1))).1.length b (wakeL c n 0 (ss.take (i+1))).1
     rw [h2]
     have:ss++ex=ss.take i++[x]++(ss.drop (i+1)++ex):=by
      have h3:ss.drop i=x::ss.drop (i+1):=by
       rw [List.drop_eq_getElem_cons hi]
       congr 1
       exact (List.getElem?_eq_some_iff.1 hx).2
      conv=>lhs;rw [←List.take_append_drop i ss,h3]
      simp
     rw [this]
     rfl
   clear h1 h2 hx hi i x
   rintro ⟨j,junk⟩ ⟨hj,hjl,hj1⟩
   change j≤k at hj
   change (wakeL c n 0 (ss.take j)).2.length+junk.length=j at hjl
   change 1≤junk.length at hj1
   refine S_r ?_
   refine bZ (fun hlt=>?_) (fun hlt=>?_)
   · have hlt:j<k:=by
      have:=oTr hlt
      have:(j:Int)<k:=this
      omega
     obtain ⟨x,hx⟩ : ∃ x,ss[j]? = some x:=⟨_,List.getElem?_eq_getElem (by omega)⟩
     have h3:ss.drop j=x::ss.drop (j+1):=by
      rw [List.drop_eq_getElem_cons (by omega)]
      congr 1
      exact (List.getElem?_eq_some_iff.1 hx).2
     have hw:=wakeL_take c n ss j x hx
     have hax:((wakeL c n 0 (ss.take j)).2++junk++(ss.drop j++ex))[j]? = some x:=by
      rw [List.getElem?_append_right (by simp;omega),h3]
      simp [hjl]
     refine SS.inlR ?_
     refine at2 (by show (0:Int)≤(j:Int);omega) (by show (j:Int)<(k:Int);omega) (rdA (rowS x) (gm hax) ?_)
     change Does Tryz.prog 279 _ _ _
     have hol:=wakeL_len c n (ss.take j) 0
     rw [List.length_take] at hol
     refine Does.on 6 [1,2,3,4] _ _ (wake1 (m:=(wakeL c n 0 (ss.take j)).1.length) (nn:=b) (out:=(wakeL c n 0 (ss.take j)).1) x c n rfl (by omega) (fun h'=>?_) fun h'=>?_)
     · rw [if_pos h'] at hw
       refine At.mk' [0,1,5,6] (j+1,junk++[x]) ⟨⟨by show j+1≤k;omega,by show (wakeL c n 0 (ss.take (j+1))).2.length+(junk++[x]).length=j+1;rw [hw];simp;omega,by simp⟩,by show k-(j+1)<k-j;omega⟩ ⟨?_,rfl⟩ ?_ rfl (by simp) (by first | decide | simp) (by first | decide | simp)
       · simp only [hw]
         rw [wrap_i64 _ (by omega) (by omega)]
         rfl
       · show dH c n _ ((wakeL c n 0 (ss.take j)).1.length+1) b ((wakeL c n 0 (ss.take j)).1++[x.t])=dH c n ((wakeL c n 0 (ss.take (j+1))).2++(junk++[x])++(ss.drop (j+1)++ex)) (wakeL c n 0 (ss.take (j+1))).1.length b (wakeL c n 0 (ss.take (j+1))).1
         rw [hw,h3]
         simp
     · rw [if_neg h'] at hw
       refine at2 (by omega) (by show ((wakeL c n 0 (ss.take j)).2.length:Int)<(k:Int);omega) ?_
       obtain ⟨y,junk,rfl⟩ : ∃ y l,junk=y::l:=by
        cases junk with
        | nil=>simp at hj1
        | cons y l=>exact ⟨y,l,rfl⟩
       have hby:((wakeL c n 0 (ss.take j)).2++(y::junk)++(ss.drop j++ex))[(wakeL c n 0 (ss.take j)).2.length]? = some y:=by simp
       refine wr1 (rowS y) (gm hby) ?_
       refine At.mk' [0,1,5,6] (j+1,junk++[x]) ⟨⟨by show j+1≤k;omega,by show (wakeL c n 0 (ss.take (j+1))).2.length+(junk++[x]).length=j+1;rw [hw];simp at hjl ⊢;omega,by simp⟩,by show k-(j+1)<k-j;omega⟩ ⟨?_,rfl⟩ ?_ rfl (by simp) (by first | decide | simp) (by first | decide | simp)
       · simp only [hw]
         rw [wrap_i64 _ (by omega) (by omega),wrap_i64 _ (by omega) (by omega),List.length_append]
         rfl
       · have hset:(((wakeL c n 0 (ss.take j)).2++(y::junk)++(ss.drop j++ex)).map rowS).set (0+((wakeL c n 0 (ss.take j)).2.length:Int).toNat) (rowS x)=((wakeL c n 0 (ss.take j)).2++[x]++(junk++[x])++(ss.drop (j+1)++ex)).map rowS:=by
          rw [h3,Nat.zero_add,Int.toNat_natCast]
          simp
         show PO.rows false 2 ((((wakeL c n 0 (ss.take j)).2++(y::junk)++(ss.drop j++ex)).map rowS).set (0+((wakeL c n 0 (ss.take j)).2.length:Int).toNat) (rowS x))::_=dH c n ((wakeL c n 0 (ss.take (j+1))).2++(junk++[x])++(ss.drop (j+1)++ex)) (wakeL c n 0 (ss.take (j+1))).1.length b (wakeL c n 0 (ss.take (j+1))).1
         rw [hset,hw]
         rfl
   · have hlt:¬(j:Int)<(k:Int):=oFa hlt
     obtain rfl:k=j:=by omega
     have hnn:(nn || Nat.blt 0 k)=true:=by
      have:Nat.blt 0 k=true:=by simp [Nat.blt];omega
      rw [this,Bool.or_true]
     refine Or.inl (And.intro (by omega) (And.intro (by show ((wakeL c n 0 (ss.take k)).2.length:Int)≤(k:Int);omega) ?_))
     have ht:ss.take k=ss:=List.take_of_length_le (by omega)
     have h:=h (nn || Nat.blt 0 k) b (List.replicate junk.length (⟨0,0⟩ : Slp)++ex) (fun _=>hnn)
     have hd:ss.drop k=[]:=List.drop_eq_nil_iff.2 (by omega)
     have hr:((wakeL c n 0 ss).2++(List.replicate junk.length (⟨0,0⟩ : Slp)++ex)).map rowS=(((wakeL c n 0 (ss.take k)).2++junk++(ss.drop k++ex)).map rowS).take (0+((wakeL c n 0 (ss.take k)).2.length:Int).toNat) ++
      List.replicate (k-((wakeL c n 0 (ss.take k)).2.length:Int).toNat) [.int .i64 0,.int .i64 0]++(((wakeL c n 0 (ss.take k)).2++junk++(ss.drop k++ex)).map rowS).drop (0+((wakeL c n 0 (ss.take k)).2.length:Int).toNat+(k-((wakeL c n 0 (ss.take k)).2.length:Int).toNat)):=by
      rw [ht] at hjl ⊢
      have e1:k-((wakeL c n 0 ss).2.length:Int).toNat=junk.length:=by omega
      rw [hd,e1,Nat.zero_add,Int.toNat_natCast,List.nil_append,←List.map_take,←List.map_drop,List.append_assoc (wakeL c n 0 ss).2 junk ex,List.take_left,←List.drop_drop,List.drop_left,List.drop_left]
      simp
     refine And.intro ?_ ?_
     · show (0+((wakeL c n 0 (ss.take k)).2.length:Int).toNat)+(k-((wakeL c n 0 (ss.take k)).2.length:Int).toNat)≤(((wakeL c n 0 (ss.take k)).2++junk++(ss.drop k++ex)).map rowS).length
       simp only [List.length_map,List.length_append]
       omega
     refine Or.inl (And.intro (by omega) (And.intro (by show ((wakeL c n 0 (ss.take k)).2.length:Int)≤(k:Int);omega) ?_))
     refine And.intro (by decide) ?_
     rw [dH,hr] at h
     simp only [ht] at h ⊢
     exact h
 · have:=h nn b ex hex
   rw [h0] at this
   refine ⟨by decide,?_⟩
   subst hk
   exact this

variable {n:Int} {k:Nat} {nn:Bool} {ss ex:List Slp}

theorem lotWake (c w:Int) {out:List Int} {kept:List Slp} (hw:wakeL c w 0 ss=(out,kept)) (hk:ss.length=k) (hn:k<1000000) (hex:ex≠[]→nn=true)
 (h:∀ (nn' b:Bool) (ex':List Slp),(ex'≠[]→nn'=true)→K (cv (.slc 5 0 out.length none b)) [] (lotH n kept.length nn' kept ex'++[.one [.f (.int .i64 c)],.one [.f (.int .i64 w)],.one [.slc 5 0 out.length none b],.rows false 1 (out.map rowZ)])) :
 Does Tryz.prog 267 [cv (.ptr 0 0),i64 c,i64 w] (lotH n k nn ss ex) K:=by
 refine does Tryz.func267 rfl (by decide) ?_
 change Does Tryz.prog 278 _ _ _
 refine Does.nilH 4 0 1 (by decide) rfl rfl ?_
 refine Does.on 6 [1,2,4,3,5] _ _ (wakeDelete c w hk hn hex fun nn' b ex' he=>?_)
 rw [hw]
 exact h nn' b ex' he

end
end
section
section

variable {K:KP} {n:Int} {k:Nat} {nn:Bool} {ss ex:List Slp}

theorem delSlp {pre post:List Slp} {x:Slp} (hn:pre.length+post.length+1<1000000)
 (h:K (cv (.slc 0 0 (pre.length+post.length) none true)) [] [.rows false 2 ((pre++post++⟨0,0⟩::ex).map rowS)]) :
 Does Tryz.prog 231 [cv (.slc 0 0 (pre.length+post.length+1) none nn),i64 pre.length,i64 ((pre.length+1:Nat):Int)] [.rows false 2 ((pre++x::post++ex).map rowS)] K:=by
 refine does Tryz.func231 rfl (by decide) ?_
 refine And.intro (by omega) (And.intro (by omega) (And.intro (by omega) (And.intro (by omega) ?_)))
 refine bZ (fun h=>absurd h (by simp;omega)) (fun _=>?_)
 refine SS.drawR follows (by decide) ?_
 refine Or.inl (And.intro (by omega) (And.intro (by omega) ?_))
 refine Or.inl (And.intro (by omega) (And.intro (by omega) ?_))
 refine And.intro (by simp;omega) ?_
 have hnn:(nn || Nat.blt 0 (pre.length+post.length+1))=true:=by simp [Nat.blt]
 have hx:(((pre++x::post++ex).map rowS).drop (0+((pre.length+1:Nat):Int).toNat)).take (pre.length+post.length+1-((pre.length+1:Nat):Int).toNat)=post.map rowS:=by
  simp [List.drop_append,List.take_append]
 rw [hx]
 refine Or.inr (And.intro rfl (And.intro hnn (And.intro ?_ ?_)))
 · simp
   omega
 obtain ⟨y,hy⟩ : ∃ y,(x::post).drop post.length=[y]:=by
  have:((x::post).drop post.length).length=1:=by simp
  match h:(x::post).drop post.length with
  | []=>simp [h] at this
  | [y]=>exact ⟨y,rfl⟩
  | _::_::_=>simp [h] at this
 have hr:((pre++x::post++ex).map rowS).take (0+0+((pre.length:Int).toNat-0))++post.map rowS++((pre++x::post++ex).map rowS).drop (0+0+((pre.length:Int).toNat-0)+(post.map rowS).length)=(pre++post++y::ex).map rowS:=by
  rw [←List.map_take,←List.map_drop,←List.map_append,←List.map_append]
  congr 1
  have e:pre++x::post++ex=pre++((x::post)++ex):=by simp
  rw [e]
  have e1:0+0+((pre.length:Int).toNat-0)=pre.length:=by omega
  rw [e1,List.take_left,List.length_map,←List.drop_drop,List.drop_left,List.drop_append_of_le_length (by simp),hy]
  simp
 rw [hr]
 refine Or.inr (And.intro rfl (And.intro hnn (And.intro (by omega) (And.intro (by omega) (And.intro ?_ (And.intro ?_ ?_))))))
 · simp
   omega
 · simp
   omega
 refine And.intro ?_ ?_
 · simp
   omega
 have hn':pre.length+post.length=(pre.length:Int).toNat-0+(post.map rowS).length:=by simp
 have hr':(pre++post++⟨0,0⟩::ex).map rowS=((pre++post++y::ex).map rowS).take (0+0+(((pre.length:Int).toNat-0+(post.map rowS).length:Nat):Int).toNat)++List.replicate (((pre.length+post.length+1:Nat):Int).toNat-(((pre.length:Int).toNat-0+(post.map rowS).length:Nat):Int).toNat) [.int .i64 0,.int .i64 0] ++
  ((pre++post++y::ex).map rowS).drop (0+0+(((pre.length:Int).toNat-0+(post.map rowS).length:Nat):Int).toNat+(((pre.length+post.length+1:Nat):Int).toNat-(((pre.length:Int).toNat-0+(post.map rowS).length:Nat):Int).toNat)):=by
  have e1:(((pre.length:Int).toNat-0+(post.map rowS).length:Nat):Int).toNat=(pre++post).length:=by
   simp
   omega
  have e2:((pre.length+post.length+1:Nat):Int).toNat-(pre++post).length=1:=by simp;omega
  rw [e1,e2,Nat.add_zero,Nat.zero_add,←List.map_take,←List.map_drop,List.take_left,←List.drop_drop,List.drop_left]
  simp
 rw [hn',hr',←hnn] at h
 exact h

theorem lotPoke (t:Int) (ht:0≤t∧t<n) (hk:ss.length=k) (hn:k<1000000)
 (h1:∀ (pre post:List Slp) (x:Slp),ss=pre++x::post→x.t=t→noT pre t→K (cv .niliface) [] (lotH n (pre.length+post.length) true (pre++post) (⟨0,0⟩::ex)))
 (h0:noT ss t→K (.p (errP 6)) [] (lotH n k nn ss ex)) :
 Does Tryz.prog 189 [cv (.ptr 0 0),i64 t] (lotH n k nn ss ex) K:=by
 refine does Tryz.func189 rfl (by decide) ?_
 refine bZ (fun h=>?_) (fun _=>?_)
 · have:=oTr h;omega
 refine bZ (fun h=>?_) (fun _=>?_)
 · have:=oTr h;omega
 change Does Tryz.prog 205 _ _ _
 refine lotFind t hk (by omega) (fun i x h=>?_) h0
 obtain ⟨hx,hxt,hno⟩:=h
 have hi:=(List.getElem?_eq_some_iff.1 hx).1
 have hs:ss=ss.take i++x::ss.drop (i+1):=by
  conv=>lhs;rw [←List.take_append_drop i ss,List.drop_eq_getElem_cons hi]
  rw [(List.getElem?_eq_some_iff.1 hx).2]
 have hno':noT (ss.take i) t:=fun y hy=>by
  obtain ⟨j,hj⟩:=List.mem_iff_getElem?.1 hy
  have hji:=(List.getElem?_eq_some_iff.1 hj).1
  rw [List.length_take] at hji
  rw [List.getElem?_take_of_lt (by omega)] at hj
  exact hno j y (by omega) hj
 replace h1:=h1 _ _ x hs hxt hno'
 have e1:(ss.take i).length=i:=by simp;omega
 have e2:k=(ss.take i).length+(ss.drop (i+1)).length+1:=by simp;omega
 change Does Tryz.prog 231 _ _ _
 rw [wrap_i64 _ (by omega) (by omega)]
 generalize ss.take i=pre at *
 generalize ss.drop (i+1)=post at *
 subst hs e1 e2
 refine Does.on 2 [1] _ _ (delSlp (by omega) ?_)
 refine eqx (K:=fun r:List Slp=>K (cv .niliface) [] [.one [.f (.int .i64 n),.slc 1 0 (pre.length+post.length) none true],.rows false 2 (r.map rowS)]) h1 ?_
 simp

end
end
section
section

variable {K:KP}

end
end
section
abbrev okC':PV:=.c .niliface
abbrev errC' (n:Int):PV:=.c (.iface 68 (.f (.int .i64 n)))
abbrev wordC (n:Int):PV:=.c (.f (.int .u64 n))

abbrev memH (nn:Bool) (n:Nat) (ws:List Int):List PO:=[.one [.slc 1 0 n none nn],.rows false 1 (ws.map rowU)]

section

variable {K:KP} {nn:Bool} {n:Nat} {ws:List Int}

theorem memIn (at':Int) (h:K (bl (decide (0≤at'∧at'<n))) [] (memH nn n ws)):Does Tryz.prog 266 [cv (.ptr 0 0),i64 at'] (memH nn n ws) K:=by
 refine does Tryz.func266 rfl (by decide) ?_
 refine bZ (fun h1=>?_) (fun h1=>?_)
 · refine eqb (K:=fun b=>K (bl b) [] (memH nn n ws)) h ?_
   have h1:=oTr h1
   simp [h1]
 · refine eqb (K:=fun b=>K (bl b) [] (memH nn n ws)) h ?_
   have h1:=oFa h1
   simp
   omega

theorem memLoad (hn:ws.length=n) (at':Int) (h1:∀ (k:Nat) (x:Int),at'=k→ws[k]? = some x→K (.tup [wordC x,okC']) [] (memH nn n ws)) (h0:¬(0≤at'∧at'<n)→K (.tup [wordC 0,errC' 2]) [] (memH nn n ws)) :
 Does Tryz.prog 232 [cv (.ptr 0 0),i64 at'] (memH nn n ws) K:=by
 refine does Tryz.func232 rfl (by decide) ?_
 change Does Tryz.prog 266 _ _ _
 refine memIn at' ?_
 refine bZ (fun h=>?_) (fun h=>?_)
 · exact h0 (by simp at h;omega)
 · have h:0≤at'∧at'<n:=by simpa using h
   obtain ⟨k,rfl⟩:=Int.eq_ofNat_of_zero_le h.1
   obtain ⟨x,hx⟩ : ∃ x,ws[k]? = some x:=⟨_,List.getElem?_eq_getElem (by omega)⟩
   refine at2 (by omega) (by omega) (rd1 (rowU x) (.int .u64 x) (by simp [hx]) rfl ?_)
   exact h1 k x rfl hx

theorem memStore (hn:ws.length=n) (at' x:Int) (h1:∀ k:Nat,at'=k→k<n→K (cv .niliface) [] (memH nn n (ws.set k x))) (h0:¬(0≤at'∧at'<n)→K (.p (errC' 2)) [] (memH nn n ws)) :
 Does Tryz.prog 268 [cv (.ptr 0 0),i64 at',u64 x] (memH nn n ws) K:=by
 refine does Tryz.func268 rfl (by decide) ?_
 change Does Tryz.prog 266 _ _ _
 refine memIn at' ?_
 refine bZ (fun h=>?_) (fun h=>?_)
 · exact h0 (by simp at h;omega)
 · have h:0≤at'∧at'<n:=by simpa using h
   obtain ⟨k,rfl⟩:=Int.eq_ofNat_of_zero_le h.1
   obtain ⟨y,hy⟩ : ∃ x,ws[k]? = some x:=⟨_,List.getElem?_eq_getElem (by omega)⟩
   refine at2 (by omega) (by omega) (wr1 (rowU y) (by simp [hy]) ?_)
   refine eqx (K:=fun r=>K (cv .niliface) [] [.one [.slc 1 0 n none nn],.rows false 1 r]) (h1 k rfl (by omega)) ?_
   simp

theorem memFetch (hn:ws.length=n) (at' m:Int) (h1:∀ (k:Nat) (x:Int),at'=k→ws[k]? = some x→K (.tup [wordC x,okC']) [] (memH nn n (ws.set k (IntKind.u64.wrap (x+m))))) (h0:¬(0≤at'∧at'<n)→K (.tup [wordC 0,errC' 2]) [] (memH nn n ws)) :
 Does Tryz.prog 234 [cv (.ptr 0 0),i64 at',u64 m] (memH nn n ws) K:=by
 refine does Tryz.func234 rfl (by decide) ?_
 change Does Tryz.prog 232 _ _ _
 refine memLoad hn at' (fun k x hk hx=>?_) fun h=>?_
 · subst hk
   have hlt:=(List.getElem?_eq_some_iff.1 hx).1
   refine at2 (by omega) (by omega) (wr1 (rowU x) (by simp [hx]) ?_)
   refine eqx (K:=fun r=>K (.tup [wordC x,okC']) [] [.one [.slc 1 0 n none nn],.rows false 1 r]) (h1 k x rfl hx) ?_
   simp
 · exact h0 h

theorem memSwap (hn:ws.length=n) (at' was is:Int) (h1:∀ (k:Nat) (x:Int),at'=k→ws[k]? = some x→x=was→K (.tup [.c (.f (.bool true)),okC']) [] (memH nn n (ws.set k is)))
 (h2:∀ (k:Nat) (x:Int),at'=k→ws[k]? = some x→x≠was→K (.tup [.c (.f (.bool false)),okC']) [] (memH nn n ws)) (h0:¬(0≤at'∧at'<n)→K (.tup [.c (.f (.bool false)),errC' 2]) [] (memH nn n ws)) :
 Does Tryz.prog 235 [cv (.ptr 0 0),i64 at',u64 was,u64 is] (memH nn n ws) K:=by
 refine does Tryz.func235 rfl (by decide) ?_
 change Does Tryz.prog 232 _ _ _
 refine memLoad hn at' (fun k x hk hx=>?_) fun h=>?_
 · subst hk
   have hlt:=(List.getElem?_eq_some_iff.1 hx).1
   refine bZ (fun h=>?_) (fun h=>?_)
   · exact h2 k x rfl hx (by simpa using h)
   · have hxw:x=was:=by simpa using h
     refine at2 (by omega) (by omega) (wr1 (rowU x) (by simp [hx]) ?_)
     refine eqx (K:=fun r=>K (.tup [.c (.f (.bool true)),okC']) [] [.one [.slc 1 0 n none nn],.rows false 1 r]) (h1 k x rfl hx hxw) ?_
     simp
 · exact h0 h

theorem memOf {ro:Bool} {nn:Bool} {l:List Int} {c:Option Nat} (n:Nat) (hl:l.length=n) (hn:n≤300) (h:K (.tup [.c (.ptr 2 0),okC']) [] [.rows ro 1 (l.map rowU),.rows false 1 (l.map rowU),.one [.slc 1 0 n none false]]) :
 Does Tryz.prog 44 [cv (.slc 0 0 n c nn)] [.rows ro 1 (l.map rowU)] K:=by
 refine does Tryz.func44 rfl (by decide) ?_
 refine bZ (fun h=>?_) (fun _=>?_)
 · have:=oTr h;omega
 have e:(List.take n (List.drop 0 (l.map rowU)))=l.map rowU:=by rw [List.drop_zero,List.take_of_length_le];simp;omega
 refine And.intro (by simp;omega) (And.intro ?_ (And.intro ?_ ?_))
 · rw [e]
   show (l.map rowU).length*8≤_
   simp;omega
 · rw [e];simp;omega
 · rw [e]
   have e2:(l.map rowU).length=n:=by simp;exact hl
   rw [e2]
   exact h

theorem memWords (hn:ws.length=n) (hm:n≤300) (h:K (cv (.slc 2 0 n none false)) [] (memH nn n ws++[.rows false 1 (ws.map rowU)])):Does Tryz.prog 169 [cv (.ptr 0 0)] (memH nn n ws) K:=by
 refine does Tryz.func169 rfl (by decide) ?_
 have e:(List.take n (List.drop 0 (ws.map rowU)))=ws.map rowU:=by rw [List.drop_zero,List.take_of_length_le];simp;omega
 refine And.intro (by simp;omega) (And.intro ?_ (And.intro ?_ ?_))
 · rw [e]
   show (ws.map rowU).length*8≤_
   simp;omega
 · rw [e];simp;omega
 · rw [e]
   have e2:(ws.map rowU).length=n:=by simp;exact hn
   rw [e2]
   exact h

end
end
end Go.Mac
end
