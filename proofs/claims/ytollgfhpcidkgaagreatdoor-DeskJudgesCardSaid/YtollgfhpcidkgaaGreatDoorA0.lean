/- Texts that belong together; the first of them:  -/
import Derived.Test.YtollgfhpcidkgaaGreatDoorMacMap
import Derived.Test.YtollgfhpcidkgaaGreatDoorMacSlc2

section
namespace Go.Mac
open Go

section

variable {B R:Nat→Prop} {w0:World} {N:Nat} {L:Nat→Loc} {H:List PO} {P:Program} {w:World}

theorem keyP_spec (kn:Nat) (k:List Int):VP N L (keyP kn k) (keyV kn k):=by
 cases kn with
 | zero=>exact rfl
 | succ n =>
   refine ⟨k.map (Value.int .i64),rfl,?_⟩
   induction k with
   | nil=>rfl
   | cons x k ih=>exact ⟨_,_,rfl,rfl,ih⟩

theorem range_sound (h:Rel B R w0 L H w) {t:TypeId} {x:AV} {v:Value} (hx:VA H.length L x v) {K:AV→List PO→Prop} (hs:rangeA P H t x K) :
   ∃ u w' L' y H',(Instr.range t v).run P w=.ok u w'∧Agree H.length [] L L'∧H.length≤H'.length∧Rel B R w0 L' H' w'∧VA H'.length L' y u∧K y H':=by
 unfold rangeA at hs
 split at hs <;> try exact hs.elim
 rename_i r
 obtain ⟨hr,rfl⟩:=hx
 rw [nth_eq] at hs
 split at hs <;> try exact hs.elim
 rename_i kn vb es clk hes
 obtain ⟨k,e,hu,hk,hz,hs⟩:=mapT_spec hs
 have hK:=snocK_spec hs
 obtain ⟨xs,hb,hx,hl⟩:=h.obj r _ hes
 have hag:=upd_agree L ⟨⟨w.heap.size,0,0,0⟩,fun _=>⟨(L r).h.blk,0,0,0⟩⟩ H.length []
 refine ⟨.pointer (some ⟨w.heap.size,0,none⟩),w.alloc (.mapIter (some (L r).h.blk) clk #[] clk),upd L H.length ⟨⟨w.heap.size,0,0,0⟩,fun _=>⟨(L r).h.blk,0,0,0⟩⟩,_,_,?_,hag,?_,?_,?_,hK⟩
 · simp [Instr.range,run_underlying_some hu,MapKept.run_getObj_map hb]
 · simp
 · refine h.put (M:=[]) H.length (.it false r clk [] clk) (by simp) (by simp) (fun j hj o1 ho1=>?_) hag (fun j hj=>upd_ne hj) ((Bel.refl B w).alloc h.size _)
     (fun b hb=>.inl (heap_alloc_lt _ _ _ hb)) (fun b hb=>?_) (fun b (hb:False)=>hb.elim) ?_
   · rcases Nat.lt_or_gt_of_ne hj with hl | hg
     · rw [List.getElem?_append_left hl] at ho1
       exact ⟨o1,ho1,(killO_nil o1).symm⟩
     · rw [List.getElem?_eq_none (by simp;omega)] at ho1
       cases ho1
   · rw [upd_self] at hb
     obtain rfl:b=w.heap.size:=hb
     exact ⟨fun hb=>Nat.lt_irrefl _ (h.size _ hb),by simp,.inl (Nat.le_refl _)⟩
   · rw [upd_self]
     exact ⟨rfl,heap_alloc_eq _ _,fun _=>⟨by simp;omega,by rw [upd_ne (by omega)]⟩⟩
 · refine ⟨by simp,?_⟩
   rw [upd_self]
   rfl

theorem left_spec {kn:Nat} {vb:Bool} {xs:Array MapEntry} {es:List (List Int×Int×Nat)} (hx:xs.toList=es.map (entV kn vb)) (seen:List Nat) :
   (xs.filter fun e=>!seen.toArray.contains e.born).toList=(leftE es seen).map (entV kn vb):=by
 rw [Array.toList_filter,hx,List.filter_map,leftE]
 congr 1
 refine List.filter_congr fun e _=>?_
 simp only [Function.comp_apply,entV,List.contains_toArray]

theorem next_sound (h:Rel B R w0 L H w) {x:AV} {v:Value} {ty:TypeId} (hx:VA H.length L x v) {K:AV→List PO→Prop} (hs:nextA H x K) :
   ∃ u w' y H',(Instr.next v false ty).run P w=.ok u w'∧H'.length=H.length∧Rel B R w0 L H' w'∧VA H.length L y u∧K y H':=by
 unfold nextA at hs
 split at hs <;> try exact hs.elim
 rename_i i
 obtain ⟨hi,rfl⟩:=hx
 rw [nth_eq] at hs
 split at hs <;> try exact hs.elim
 rename_i r since seen last hit
 rw [nth_eq] at hs
 split at hs <;> try exact hs.elim
 rename_i kn vb es clk hes
 obtain ⟨hbn,h0,h1⟩:=hs
 obtain ⟨ib,io,itt⟩:=h.obj i _ hit
 obtain ⟨hr,hL⟩:=itt rfl
 obtain ⟨xs,hm,hx,hl⟩:=h.obj r _ hes
 have hat:((L i).h.at 0 0) = ⟨(L i).h.blk,0,none⟩:=by simp [ILoc.at,ib]
 rw [←hL] at io
 have g1:(getObj (L i).h.blk).run P w=.ok (.mapIter (some (L r).h.blk) since seen.toArray last) w:=by simp [getObj,Sem.run,io]
 have g2:=MapKept.run_getObj_map (P:=P) hm
 have hguard:(!seen.toArray.isEmpty && !xs.isEmpty && xs.all fun e=>decide (e.born≥last))=false:=by
   cases es with
   | nil =>
     have:xs = #[]:=by apply Array.ext';rw [hx];rfl
     subst this;simp
   | cons e es' =>
     have:(xs.all fun e=>decide (e.born≥last))=false:=by
       rw [Bool.eq_false_iff]
       intro hh
       rw [←Array.all_toList,hx,List.all_eq_true] at hh
       have h3:=of_decide_eq_true (hh _ (List.mem_map_of_mem (List.mem_cons_self ..)))
       have h4:=(hbn e (List.mem_cons_self ..)).2
       have h5:(entV kn vb e).born=e.2.2:=rfl
       omega
     rw [this,Bool.and_false]
 have hls:=left_spec hx seen
 have hlb:∀ y∈(xs.filter fun e=>!seen.toArray.contains e.born).toList,y.born<since:=fun y hy=>by
   rw [hls] at hy
   obtain ⟨e,he,rfl⟩:=List.mem_map.1 hy
   exact (hbn e (List.mem_filter.1 he).1).1
 have hold:((xs.filter fun e=>!seen.toArray.contains e.born).filter fun e=>decide (e.born<since))=xs.filter fun e=>!seen.toArray.contains e.born:=by
   apply Array.ext'
   rw [Array.toList_filter,List.filter_eq_self]
   exact fun y hy=>decide_eq_true (hlb y hy)
 have hnew:((xs.filter fun e=>!seen.toArray.contains e.born).filter fun e=>decide (e.born≥since)) = #[]:=by
   apply Array.ext'
   rw [Array.toList_filter]
   refine List.filter_eq_nil_iff.2 fun y hy=>?_
   have:=hlb y hy
   simp;omega
 generalize hlf:(xs.filter fun e=>!seen.toArray.contains e.born)=left at hls hold hnew
 rcases hle:leftE es seen with _ | ⟨e0,es0⟩
 · have hl0:left = #[]:=by apply Array.ext';rw [hls,hle];rfl
   refine ⟨.tuple #[.bool false],w,.tup [.c (.f (.bool false))],H,?_,rfl,h,⟨_,rfl,_,_,rfl,rfl,rfl⟩,h0 hle⟩
   simp only [Instr.next,hat,Sem.run_bind,g1,Result.andThen_ok,g2,hguard,Bool.false_eq_true,if_false,hlf,hold,hnew]
   simp [hl0,Question.forced]
 · have hlsz:left.size=es0.length+1:=by rw [←Array.length_toList,hls,hle];simp
   have hne:left.isEmpty=false:=by simp [Array.isEmpty,hlsz]
   -- whichever comes
   have pick:∃ (j:Nat) (w1:World),(choose (.mapNext left.size)).run P w=.ok j w1∧j<left.size∧(w1=w∨w1=w.drew):=by
     rw [run_choose]
     by_cases hf:(Question.mapNext left.size).forced=true
     · rw [if_pos hf]
       exact ⟨0,w,rfl,by omega,.inl rfl⟩
     · rw [if_neg hf]
       exact ⟨_,w.drew,rfl,Nat.mod_lt _ (by omega),.inr rfl⟩
   obtain ⟨j,w1,hch,hj,hw1⟩:=pick
   have hr1:Rel B R w0 L H w1:=by
     rcases hw1 with rfl | rfl
     · exact h
     · exact h.drew
   have io1:w1.heap[(L i).h.blk]? = some (.mapIter (some (L r).h.blk) since seen.toArray last):=by
     rcases hw1 with rfl | rfl <;> exact io
   obtain ⟨e,he,hje⟩ : ∃ e,e∈leftE es seen∧left[j]? = some (entV kn vb e):=by
     have hjl:j<(leftE es seen).length:=by rw [hle];simp;omega
     refine ⟨(leftE es seen)[j],List.getElem_mem hjl,?_⟩
     rw [←Array.getElem?_toList,hls,List.getElem?_map,List.getElem?_eq_getElem hjl]
     rfl
   have hK:=h1 e he
   rw [setK_eq] at hK
   have hlt:=(List.getElem?_eq_some_iff.1 hit).1
   obtain ⟨hB,hbl,_⟩:=hr1.own i _ (L i).h.blk hit rfl
   obtain ⟨k1,k2⟩:=MapKept.heap_set (o':=.mapIter (some (L r).h.blk) since (seen.toArray.push e.2.2) clk) io1
   refine ⟨.tuple #[.bool true,keyV kn e.1,(elmF vb e.2.1).val],{ w1 with heap:=w1.heap.setIfInBounds (L i).h.blk (.mapIter (some (L r).h.blk) since (seen.toArray.push e.2.2) clk) },.tup [.c (.f (.bool true)),keyP kn e.1,.c (.f (elmF vb e.2.1))],_,?_,by simp,?_,
     ⟨_,rfl,_,_,rfl,rfl,_,_,rfl,keyP_spec kn e.1,_,_,rfl,rfl,rfl⟩,hK⟩
   · have g3:(setObj (L i).h.blk (.mapIter (some (L r).h.blk) since (seen.toArray.push e.2.2) clk)).run P w1=.ok () { w1 with heap:=w1.heap.setIfInBounds (L i).h.blk (.mapIter (some (L r).h.blk) since (seen.toArray.push e.2.2) clk) }:=by
       simp [setObj,Sem.run,io1]
     simp only [Instr.next,hat,Sem.run_bind,g1,Result.andThen_ok,g2,hguard,Bool.false_eq_true,if_false,hlf,hold,hnew]
     simp only [hne,Bool.false_eq_true,if_false,Array.append_empty,Array.empty_append,Array.size_map,hch,Result.andThen_ok,Array.getElem?_map,hje,Option.map_some]
     simp only [Sem.run_bind,show (entV kn vb e).born=e.2.2 from rfl,g3,Result.andThen_ok,Sem.run_pure]
     rfl
   · refine hr1.put (M:=[]) i _ (by simp) (List.getElem?_set_self hlt) (fun j hj o1 ho1=>?_) (Agree.refl _ _ _) (fun _ _=>rfl) ⟨rfl,rfl,rfl,by simp,fun q hq=>k2 q fun e=>hB (by rw [←e];exact hq)⟩ (fun q hq=>?_) (fun q hq=>?_) (fun q (hq:False)=>hq.elim)
       ⟨ib,?_,fun _=>⟨by simpa using hr,hL⟩⟩
     · rw [List.getElem?_set_ne (Ne.symm hj)] at ho1
       exact ⟨o1,ho1,(killO_nil o1).symm⟩
     · by_cases hqb:q=(L i).h.blk
       · exact .inr ⟨_,hit,hqb⟩
       · exact .inl (k2 q hqb)
     · obtain rfl:q=(L i).h.blk:=hq
       exact ⟨hB,by simpa using hbl,.inr ⟨_,hit,rfl⟩⟩
     · rw [k1,hL]
       simp

theorem entAt_sound (h:Rel B R w0 L H w) {x:AV} {v:Value} (hx:VA H.length L x v) {K:AV→Prop} (hs:entAtA H x K) :
   ∃ y u,(Instr.entry v).run P w=.ok u w∧VA H.length L y u∧K y:=by
 unfold entAtA at hs
 split at hs <;> try exact hs.elim
 rename_i i
 obtain ⟨hi,rfl⟩:=hx
 rw [nth_eq] at hs
 split at hs <;> try exact hs.elim
 rename_i r since seen last hit
 rw [nth_eq] at hs
 split at hs <;> try exact hs.elim
 rename_i kn vb es clk hes
 obtain ⟨hcl,b,e,hb,he,hK⟩:=hs
 obtain ⟨ib,io,itt⟩:=h.obj i _ hit
 obtain ⟨hr,hL⟩:=itt rfl
 obtain ⟨xs,hm,hx,hl⟩:=h.obj r _ hes
 have hat:((L i).h.at 0 0) = ⟨(L i).h.blk,0,none⟩:=by simp [ILoc.at,ib]
 rw [←hL] at io
 have g1:(getObj (L i).h.blk).run P w=.ok (.mapIter (some (L r).h.blk) since seen.toArray last) w:=by simp [getObj,Sem.run,io]
 have g2:=MapKept.run_getObj_map (P:=P) hm
 have hbk:seen.toArray.back? = some b:=by simpa using hb
 have hfd:xs.find? (fun e=>e.born == b)=some (entV kn vb e):=by
   rw [←Array.find?_toList,hx,List.find?_map]
   have:((fun e:MapEntry=>e.born == b) ∘ entV kn vb)=fun e=>e.2.2 == b:=rfl
   rw [this,he]
   rfl
 refine ⟨.tup [keyP kn e.1,.c (.f (elmF vb e.2.1))],.tuple #[keyV kn e.1,(elmF vb e.2.1).val],?_,⟨_,rfl,_,_,rfl,keyP_spec kn e.1,_,_,rfl,rfl,rfl⟩,hK⟩
 subst hcl
 simp only [Instr.entry,hat,Sem.run_bind,g1,Result.andThen_ok,hbk,g2,bne_self_eq_false,Bool.false_eq_true,if_false,hfd,Sem.run_pure]
 rfl

end

end Go.Mac
end

section
namespace Go.Mac
open Go

theorem over_length {α : Type} {xs ys:List α} {o:Nat} (h:o+ys.length≤xs.length):(over xs o ys).length=xs.length:=by
 simp [over];omega

theorem over_get {α : Type} {xs ys:List α} {o:Nat} (h:o+ys.length≤xs.length) (j:Nat):(over xs o ys)[j]? = if j<o then xs[j]? else if j<o+ys.length then ys[j-o]? else xs[j]?:=by
 have ht:(xs.take o).length=o:=by rw [List.length_take];omega
 rw [over]
 by_cases h1:j<o
 · rw [if_pos h1,List.append_assoc,List.getElem?_append_left (by omega),List.getElem?_take_of_lt h1]
 · rw [if_neg h1]
   by_cases h2:j<o+ys.length
   · rw [if_pos h2,List.append_assoc,List.getElem?_append_right (by omega),ht,List.getElem?_append_left (by omega)]
   · rw [if_neg h2,List.getElem?_append_right (by simp;omega),List.getElem?_drop]
     congr 1
     simp [ht];omega

section

variable {B R:Nat→Prop} {w0:World} {N:Nat} {L:Nat→Loc} {H:List PO} {P:Program} {w:World}

theorem run_copy {t ty e:TypeId} {ts:List TypeId} {i:TypeInfo} (ht:P.underlying t=some (.slice e)) (hi:P.info? e=some i) {a:Option Addr} {n k m:Nat} {v:Value} {xs:List Value}
   (hv:(m=0∧v=.slice none 0 0)∨∃ b c,v=.slice (some b) m c∧∀ (j:Nat) (z:Value),xs[j]? = some z→w.cell? (b.add j)=some z) (hl:xs.length=min m n*i.size) {w':World}
   (hst:∀ a0,a=some a0→(storeCells a0 xs).run P w=.ok () w') (hno:a=none→w'=w) :
   (Builtin.copy_ (t::ts).toArray ty #[.slice a n k,v]).run P w=.ok (.int .i64 (min m n:Nat)) w':=by
 have hf:(Builtin.firstCells i.size (min m n) v).run P w=.ok xs.toArray w∧(Builtin.lenOf v).run P w=.ok m w:=by
   rcases hv with ⟨rfl,rfl⟩ | ⟨b,c,rfl,hc⟩
   · have:xs=[]:=List.length_eq_zero_iff.1 (by simpa using hl)
     subst this
     exact ⟨run_firstCells_none w _ _ _ _,rfl⟩
   · exact ⟨run_firstCells_some w _ _ _ _ _ xs hl hc,rfl⟩
 have hmin:Nat.min m n=min m n:=rfl
 cases a with
 | none =>
   have:=hno rfl
   subst this
   simp [Builtin.copy_,run_underlying_some ht,sizeOf,typeInfo,hi,hf.1,hf.2,hmin,goInt]
 | some a0 =>
   simp [Builtin.copy_,run_underlying_some ht,sizeOf,typeInfo,hi,hf.1,hf.2,hmin,hst a0 rfl,goInt]

theorem store_raw {b off n:Nat} (hc:Cells w b n) (us:List Value) (h1:∀ v∈us,OneCell v=true) (hle:off+us.length≤n) :
   ∃ w',(storeCells ⟨b,off,none⟩ us 0).run P w=.ok () w'∧Bel (fun k=>k≠b) w w'∧(∀ k,k≠b→w'.heap[k]? = w.heap[k]?)∧w'.heap.size=w.heap.size∧Cells w' b n ∧
     (∀ j,(j<off∨off+us.length≤j)→w'.cell? ⟨b,j,none⟩ = w.cell? ⟨b,j,none⟩)∧∀ (j:Nat) (v:Value),us[j]? = some v→w'.cell? ⟨b,off+j,none⟩ = some v:=by
 obtain ⟨c,t,fr,hblk,hsz,hfr⟩:=hc
 obtain ⟨w',c',hrun,hbel,hk,hz,hb',hc',hout,hin⟩:=run_storeCells' (P:=P) (a:=⟨b,off,none⟩) rfl us w c 0 hblk (by simpa [hsz] using hle) hfr h1
 have hcell:∀ j,w'.cell? ⟨b,j,none⟩ = c'[j]?:=fun j=>by
   have:w'.heap[b]? = some (.cells c' t fr):=hb'
   simp [World.cell?,this]
 have hcell0:∀ j,w.cell? ⟨b,j,none⟩ = c[j]?:=fun j=>by simp [World.cell?,hblk]
 refine ⟨w',hrun,hbel,hk,hz,⟨c',t,fr,hb',by rw [hc',hsz],by rw [hc'];exact hfr⟩,fun j hj=>?_,fun j v hj=>?_⟩
 · rw [hcell,hcell0,hout j (by simpa using hj)]
 · rw [hcell];exact by simpa using hin j v hj

theorem set_self {α : Type} {l:List α} {i:Nat} {x : α} (h:l[i]? = some x):l.set i x=l:=List.ext_getElem? fun j=>by
 by_cases hj:j=i
 · subst hj;rw [List.getElem?_set_self (List.getElem?_eq_some_iff.1 h).1,h]
 · rw [List.getElem?_set_ne (Ne.symm hj)]

theorem over_nil {α : Type} (xs:List α) (o:Nat):over xs o []=xs:=by simp [over]

def hdrs (w:World) (h:ILoc) (o n:Nat):List Value:=(List.range n).map fun j=>(w.cell? (h.at (o+j) 0)).getD undef

theorem hdrs_len {h:ILoc} {o n:Nat}:(hdrs w h o n).length=n:=by simp [hdrs]

theorem hdrs_get {h:ILoc} {o n j:Nat} (hj:j<n):(hdrs w h o n)[j]? = some ((w.cell? (h.at (o+j) 0)).getD undef):=by
 rw [hdrs,List.getElem?_map,List.getElem?_range hj];rfl

theorem hdrs_src {h:ILoc} {o n m:Nat} {c:Option Nat} {nn:Bool} {v:Value} (hh:Hdr h o m c nn v) (hs:h.sz=1) (hm:n≤m) (hc:∀ j,j<n→∃ z,w.cell? (h.at (o+j) 0)=some z) :
   (m=0∧v=.slice none 0 0)∨∃ b c,v=.slice (some b) m c∧∀ (j:Nat) (z:Value),(hdrs w h o n)[j]? = some z→w.cell? (b.add j)=some z:=by
 rcases hh with ⟨_,h0,hv,_⟩ | ⟨a,k,hv,hnk,_,_,_,ha⟩
 · exact .inl ⟨h0,hv⟩
 · refine .inr ⟨a,k,hv,fun j z hz=>?_⟩
   have hj:j<n:=by have:=(List.getElem?_eq_some_iff.1 hz).1;rwa [hdrs_len] at this
   obtain ⟨y,hy⟩:=hc j hj
   rw [hdrs_get hj,hy,Option.getD_some] at hz
   obtain rfl:=Option.some.inj hz
   rw [ha (by omega),Addr.add_none _ _ rfl]
   simpa [ILoc.at,hs,Nat.add_assoc] using hy

theorem hdr_dst {h:ILoc} {o m:Nat} {c:Option Nat} {nn:Bool} {v:Value} (hh:Hdr h o m c nn v) (hb:h.cap≠0→h.base=0) (_hs:h.sz≠0) :
   ∃ a k,v=.slice a m k∧(a=none→m=0)∧∀ a0,a=some a0→m=0∨(h.cap≠0∧a0 = ⟨h.blk,o*h.sz,none⟩):=by
 rcases hh with ⟨_,h0,hv,_⟩ | ⟨a,k,hv,hnk,_,hok,_,ha⟩
 · exact ⟨none,0,by rw [hv,h0],fun _=>h0,fun a0 h=>by cases h⟩
 · refine ⟨some a,k,hv,fun h=>(by cases h),fun a0 h=>?_⟩
   cases h
   rcases Nat.eq_zero_or_pos m with hm | hm
   · exact .inl hm
   · have hc:h.cap≠0:=by omega
     refine .inr ⟨hc,?_⟩
     rw [ha (by omega)]
     simp [ILoc.at,hb hc]

theorem copy_sound (h:Rel B R w0 L H w) {ts:List TypeId} {ty:TypeId} {d s:AV} {v u:Value} (hd:VA H.length L d v) (hs:VA H.length L s u) {K:AV→List Nat→List PO→Prop} (ha:copyA P H ts d s K) :
   ∃ r w',(Builtin.copy_ ts.toArray ty #[v,u]).run P w=.ok r w'∧Left B R w0 H.length L K r w':=by
 unfold copyA at ha
 split at ha <;> try exact ha.elim
 rename_i t ts
 split at ha <;> try exact ha.elim
 rename_i e rd od nd cd nnd rs os ns cs nns he
 simp only [cond_eq_ite] at ha
 split at ha <;> try exact ha.elim
 rename_i hinfo
 obtain ⟨i,hi⟩:=Option.isSome_iff_exists.1 hinfo
 have ht:=elemT_spec he
 have hszOf:szOf P e=i.size:=by simp [szOf,hi]
 obtain ⟨hrdN,hhd⟩:=hd
 obtain ⟨hrsN,hhs⟩:=hs
 simp only [nth_eq] at ha
 split at ha <;> try exact ha.elim
 · rename_i sz xs ro sz' ys hrd hrs
   simp only [Bool.and_eq_true] at ha
   split at ha <;> try exact ha.elim
   rename_i hb
   obtain ⟨hb1,hb2⟩:=hb
   have hb1:=Nat.eq_of_beq_eq_true hb1
   obtain rfl:=Nat.eq_of_beq_eq_true hb2
   rw [hszOf] at hb1
   obtain ⟨hle1,hle2,hK⟩:=ha
   rw [setK_eq] at hK
   have hD:RowsAt w true sz' xs (L rd).h:=h.obj rd _ hrd
   have hS:RowsAt w (!ro) sz' ys (L rs).h:=h.obj rs _ hrs
   obtain ⟨d1,d2,d3,d4,d5⟩:=hD
   obtain ⟨n,hn⟩ : ∃ n,min ns nd=n:=⟨_,rfl⟩
   rw [hn] at hK
   obtain ⟨s1,s2,s3⟩:=hS.vals os n (by omega)
   have hyl:((ys.drop os).take n).length=n:=by simp;omega
   have hsrc:(ns=0∧u=.slice none 0 0)∨∃ b c,u=.slice (some b) ns c∧∀ (j:Nat) (z:Value),(vals ((ys.drop os).take n))[j]? = some z→w.cell? (b.add j)=some z:=by
     rcases hhs with ⟨_,h0,hv,_⟩ | ⟨a,k,hv,hnk,_,_,_,ha⟩
     · exact .inl ⟨h0,hv⟩
     · refine .inr ⟨a,k,hv,fun j z hz=>?_⟩
       have:j<n*sz':=by have:=(List.getElem?_eq_some_iff.1 hz).1;rwa [s2] at this
       have hn0:n≠0:=fun e=>by rw [e] at this;simp at this
       rw [ha (by omega)]
       exact s3 j z hz
   have hvl:(vals ((ys.drop os).take n)).length=min ns nd*i.size:=by rw [s2,hn,hb1]
   obtain ⟨a,k,rfl,hno,hdst⟩:=hdr_dst hhd (fun hc=>(d4 rfl hc).1) (by omega)
   by_cases hn0:n=0
   · have hnil:(ys.drop os).take n=[]:=List.length_eq_zero_iff.1 (by omega)
     rw [hnil] at hK hsrc hvl
     rw [over_nil,set_self hrd] at hK
     refine ⟨_,w,run_copy ht hi hsrc hvl (fun a0 _=>rfl) (fun _=>rfl),L,_,[],H,Agree.refl _ _ _,Nat.le_refl _,?_,h,hK⟩
     rw [hn]
     rfl
   · cases a with
     | none=>exact absurd (hno rfl) (by omega)
     | some a0 =>
       rcases hdst a0 rfl with hm | ⟨hcap,rfl⟩
       · omega
       obtain ⟨ob,q,hq,oc⟩:=d4 rfl hcap
       obtain ⟨w',hr,hrel⟩:=store_cells (P:=P) h hrd (o':=.rows false sz' (over xs od ((ys.drop os).take n))) (b:=(L rd).h.blk) (off:=od*sz') (n:=q) ⟨hcap,rfl⟩ (fun _=>Iff.rfl) (fun _=>Iff.rfl) oc
         (vals ((ys.drop os).take n)) vals_one (by rw [s2,←Nat.add_mul];exact Nat.le_trans (Nat.mul_le_mul_right _ (by omega)) hq) (fun w' hk hcc hout hin=>by
           refine ⟨d1,d2,by rw [over_length (by omega)];exact d3,fun _ _=>⟨ob,q,hq,hcc⟩,fun j r hj=>?_⟩
           rw [over_get (by omega),hyl] at hj
           have hat:∀ j f,(L rd).h.at j f = ⟨(L rd).h.blk,j*sz'+f,none⟩:=fun j f=>by simp [ILoc.at,ob,d1]
           have old:∀ (j:Nat) (r:List FC),xs[j]? = some r→(j<od∨od+n≤j)→r.length=sz'∧∀ (f:Nat) (x:FC),r[f]? = some x→w'.cell? ((L rd).h.at j f)=some x.val:=fun j r hj hjo=>by
             obtain ⟨e1,e2⟩:=d5 j r hj
             refine ⟨e1,fun f x hx=>?_⟩
             have hf:f<sz':=by rw [←e1];exact (List.getElem?_eq_some_iff.1 hx).1
             rw [hat,hout,←hat]
             · exact e2 f x hx
             · rw [s2]
               rcases hjo with hjo | hjo
               · left
                 have:=Nat.mul_le_mul_right sz' (show j+1≤od by omega)
                 rw [Nat.add_mul] at this
                 omega
               · right
                 have:=Nat.mul_le_mul_right sz' hjo
                 rw [Nat.add_mul] at this
                 omega
           split at hj
           · exact old j r hj (by omega)
           · split at hj
             · refine ⟨s1 r (List.mem_of_getElem? hj),fun f x hx=>?_⟩
               have:=hin _ _ (flat_get s1 hj hx)
               rw [hat]
               rwa [show od*sz'+((j-od)*sz'+f)=j*sz'+f by rw [←Nat.add_assoc,←Nat.add_mul];congr 2;omega] at this
             · exact old j r hj (by omega))
       have hr':(storeCells ⟨(L rd).h.blk,od*(L rd).h.sz,none⟩ (vals ((ys.drop os).take n))).run P w=.ok () w':=by rw [d1];exact hr
       refine ⟨_,w',run_copy ht hi hsrc hvl (fun a1 e=>by cases e;exact hr') (fun e=>by cases e),L,_,[],_,Agree.refl _ _ _,by simp,?_,hrel,hK⟩
       rw [hn]
       rfl
 · rename_i ap sz es sz' yss hrd hrs
   simp only [Bool.and_eq_true] at ha
   split at ha <;> try exact ha.elim
   rename_i hb
   obtain ⟨hb1,hb2⟩:=hb
   have hb1:=Nat.eq_of_beq_eq_true hb1
   obtain rfl:=Nat.eq_of_beq_eq_true hb2
   rw [hszOf] at hb1
   obtain ⟨hle1,hle2,hK⟩:=ha
   have hK:=hK fun j=>(L rs).inn (os+j)
   rw [killHK_eq,setK_eq,setK_eq] at hK
   have hne:rd≠rs:=fun e=>by subst e;rw [hrd] at hrs;cases hrs
   obtain ⟨d1,d2,d3,d4⟩:=h.obj rd _ hrd
   obtain ⟨s1,s2,s3,s4,s5⟩:=h.obj rs _ hrs
   obtain ⟨n,hn⟩ : ∃ n,min ns nd=n:=⟨_,rfl⟩
   rw [hn] at hK
   have hcell:∀ j,j<n→∃ z,w.cell? ((L rs).h.at (os+j) 0)=some z∧Hdr ((L rs).inn (os+j)) 0 ((yss.drop os).getD j []).length none false z∧RowsAt w true sz' ((yss.drop os).getD j []) ((L rs).inn (os+j)):=fun j hj=>by
     obtain ⟨q,hq⟩ : ∃ q,yss[os+j]? = some q:=⟨_,List.getElem?_eq_getElem (by omega)⟩
     obtain ⟨e1,z,e2,e3⟩:=s4 _ q hq
     have:(yss.drop os).getD j []=q:=by rw [List.getD_eq_getElem?_getD,List.getElem?_drop,hq];rfl
     rw [this]
     exact ⟨z,e2,e3,e1⟩
   have hsrc:=hdrs_src (w:=w) (n:=n) hhs s1 (by omega) fun j hj=>by obtain ⟨z,h1,_⟩:=hcell j hj;exact ⟨z,h1⟩
   have hvl:(hdrs w (L rs).h os n).length=min ns nd*i.size:=by rw [hdrs_len,hn,hb1,Nat.mul_one]
   have hone:∀ z∈hdrs w (L rs).h os n,OneCell z=true:=fun z hz=>by
     obtain ⟨j,hj⟩:=List.mem_iff_getElem?.1 hz
     have hjn:j<n:=by have:=(List.getElem?_eq_some_iff.1 hj).1;rwa [hdrs_len] at this
     obtain ⟨y,h1,h2,_⟩:=hcell j hjn
     rw [hdrs_get hjn,h1,Option.getD_some] at hj
     obtain rfl:=Option.some.inj hj
     exact h2.one
   obtain ⟨a,k,rfl,hno,hdst⟩:=hdr_dst hhd (fun hc=>(d3 hc).1) (by omega)
   have hlen:((List.range n).map fun j=>some ((L rs).inn (os+j),(yss.drop os).getD j [])).length=n:=by simp
   have key:∀ w',Bel (fun k=>¬((L rd).h.cap≠0∧k=(L rd).h.blk)) w w'→w'.heap.size=w.heap.size→((L rd).h.cap≠0→∀ q,Cells w (L rd).h.blk q→Cells w' (L rd).h.blk q) →
       (∀ j,(j<od∨od+n≤j)→(L rd).h.cap≠0→w'.cell? ((L rd).h.at j 0)=w.cell? ((L rd).h.at j 0))→(∀ j z,(hdrs w (L rs).h os n)[j]? = some z→w'.cell? ((L rd).h.at (od+j) 0)=some z) →
       Left B R w0 H.length L K (.int .i64 (min ns nd:Nat)) w':=by
     intro w' k1 k2 k3 k4 k5
     have hnB:∀ k,B k→¬((L rd).h.cap≠0∧k=(L rd).h.blk):=fun k hk hh=>(h.own rd _ k hrd (.inl hh)).1 hk
     have hrel:=h.seize (M:=[rs]) (L':=L) (H':=((H.map (killO [rs])).set rd (.rows3 false sz' (over es od ((List.range n).map fun j=>some ((L rs).inn (os+j),(yss.drop os).getD j []))))).set rs .gone) (w':=w') rd [rs] (.rows3 false sz' (over es od ((List.range n).map fun j=>some ((L rs).inn (os+j),(yss.drop os).getD j []))))
       (by simp) (by rw [List.getElem?_set_ne (Ne.symm hne),List.getElem?_set_self (by simpa using hrdN)]) (fun j hj o ho=>by
         by_cases hj2:j=rs
         · subst hj2
           rw [List.getElem?_set_self (by simpa using hrsN)] at ho
           exact .inl (Option.some.inj ho).symm
         · rw [List.getElem?_set_ne (Ne.symm hj2),List.getElem?_set_ne (Ne.symm hj),List.getElem?_map,Option.map_eq_some_iff] at ho
           obtain ⟨o1,ho1,rfl⟩:=ho
           exact .inr ⟨by simpa using hj2,o1,ho1,rfl⟩) (Agree.refl _ _ _) (fun _ _=>rfl)
       ⟨k1.os,k1.tape,k1.output,k1.size,fun k hk=>k1.block k (hnB k hk)⟩ (fun b _=>by
         by_cases hh:(L rd).h.cap≠0∧b=(L rd).h.blk
         · exact .inr ⟨rd,_,.inl rfl,hrd,.inl hh⟩
         · exact .inl (k1.block b hh)) (fun b hb=>by
         rcases hb with hb | ⟨j,p,hj,hc,rfl⟩
         · obtain ⟨g1,g2,_⟩:=h.own rd _ b hrd (.inl hb)
           exact ⟨g1,by omega,.inr ⟨rd,_,.inl rfl,hrd,.inl hb⟩⟩
         · rw [over_get (by omega),hlen] at hj
           have hold:es[j]? = some (some p)→¬B p.1.blk∧p.1.blk<w'.heap.size∧(w.heap.size≤p.1.blk∨∃ j o,(j=rd∨j∈[rs])∧H[j]? = some o∧Own o (L j) p.1.blk):=fun hj=>by
             have ho:Own (.rows3 ap sz' es) (L rd) p.1.blk:=.inr ⟨j,p,hj,hc,rfl⟩
             obtain ⟨g1,g2,_⟩:=h.own rd _ _ hrd ho
             exact ⟨g1,by omega,.inr ⟨rd,_,.inl rfl,hrd,ho⟩⟩
           split at hj
           · exact hold hj
           · split at hj
             · rename_i hjn
               rw [List.getElem?_map,List.getElem?_range (by omega)] at hj
               have hj:=Option.some.inj (Option.some.inj hj)
               subst hj
               have ho:Own (.rows2 false sz' yss) (L rs) ((L rs).inn (os+(j-od))).blk:=.inr ⟨_,by omega,hc,rfl⟩
               obtain ⟨g1,g2,_⟩:=h.own rs _ _ hrs ho
               exact ⟨g1,by show ((L rs).inn (os+(j-od))).blk<_;omega,.inr ⟨rs,_,.inr (by simp),hrs,ho⟩⟩
             · exact hold hj) (fun b hb=>hb.elim) (by
         refine ⟨d1,by rw [over_length (by omega)];exact d2,fun hc=>⟨(d3 hc).1,(d3 hc).2.elim fun q hq=>⟨q,hq.1,k3 hc q hq.2⟩⟩,fun j p hj=>?_⟩
         have hlt:j<es.length:=by have:=(List.getElem?_eq_some_iff.1 hj).1;rwa [over_length (by omega)] at this
         have hcap:(L rd).h.cap≠0:=by omega
         rw [over_get (by omega),hlen] at hj
         have hold:es[j]? = some (some p)→(j<od∨od+n≤j)→RowsAt w' true sz' p.2 p.1∧(∃ v,w'.cell? ((L rd).h.at j 0)=some v∧Hdr p.1 0 p.2.length none false v) ∧
             (p.1.cap≠0→((L rd).h.cap≠0→p.1.blk≠(L rd).h.blk)∧(false=true→∀ (j2:Nat) (q:ILoc×List (List FC)),(over es od ((List.range n).map fun j=>some ((L rs).inn (os+j),(yss.drop os).getD j [])))[j2]? = some (some q)→q.1.cap≠0→q.1.blk=p.1.blk→j2=j)):=fun hj hjo=>by
           obtain ⟨e1,⟨z,e2,e3⟩,e4⟩:=d4 j p hj
           refine ⟨e1.mono fun hc=>k1.block _ fun hh=>(e4 hc).1 hcap hh.2,⟨z,by rw [k4 j hjo hcap];exact e2,e3⟩,fun hc=>⟨(e4 hc).1,fun h=>by cases h⟩⟩
         split at hj
         · exact hold hj (by omega)
         · split at hj
           · rename_i hjn
             rw [List.getElem?_map,List.getElem?_range (by omega)] at hj
             have hj:=Option.some.inj (Option.some.inj hj)
             subst hj
             obtain ⟨z,e2,e3,e1⟩:=hcell (j-od) (by omega)
             have hown:((L rs).inn (os+(j-od))).cap≠0→Own (.rows2 false sz' yss) (L rs) ((L rs).inn (os+(j-od))).blk:=fun hc=>.inr ⟨_,by omega,hc,rfl⟩
             have hdiff:((L rs).inn (os+(j-od))).cap≠0→((L rs).inn (os+(j-od))).blk≠(L rd).h.blk:=fun hc e=>hne ((h.own rs _ _ hrs (hown hc)).2.2 rd _ hrd (.inl ⟨hcap,e⟩))
             refine ⟨e1.mono fun hc=>k1.block _ fun hh=>hdiff hc hh.2,⟨z,?_,e3⟩,fun hc=>⟨fun _=>hdiff hc,fun h=>by cases h⟩⟩
             have:=k5 (j-od) z (by rw [hdrs_get (by omega),e2];rfl)
             rwa [show od+(j-od)=j by omega] at this
           · exact hold hj (by omega))
     refine ⟨L,_,_,_,Agree.refl _ _ _,by simp,?_,hrel,hK⟩
     rw [hn]
     rfl
   by_cases hn0:n=0
   · have hnil:hdrs w (L rs).h os n=[]:=List.length_eq_zero_iff.1 (by rw [hdrs_len];exact hn0)
     rw [hnil] at hsrc hvl
     exact ⟨_,w,run_copy ht hi hsrc hvl (fun a0 _=>rfl) (fun _=>rfl),key w (Bel.refl _ _) rfl (fun _ _ hq=>hq) (fun _ _ _=>rfl) fun j z hz=>by rw [hnil] at hz;simp at hz⟩
   · cases a with
     | none=>exact absurd (hno rfl) (by omega)
     | some a0 =>
       rcases hdst a0 rfl with hm | ⟨hcap,rfl⟩
       · omega
       obtain ⟨ob,q,hq,oc⟩:=d3 hcap
       have hat:∀ j,(L rd).h.at j 0 = ⟨(L rd).h.blk,j,none⟩:=fun j=>by simp [ILoc.at,ob,d1]
       obtain ⟨w',hr,hbel,hk,hz,hcc,hout,hin⟩:=store_raw (P:=P) (off:=od) oc (hdrs w (L rs).h os n) hone (by rw [hdrs_len];omega)
       have hr':(storeCells ⟨(L rd).h.blk,od*(L rd).h.sz,none⟩ (hdrs w (L rs).h os n)).run P w=.ok () w':=by rw [d1,Nat.mul_one];exact hr
       refine ⟨_,w',run_copy ht hi hsrc hvl (fun a1 e=>by cases e;exact hr') (fun e=>by cases e),key w' ⟨hbel.os,hbel.tape,hbel.output,hbel.size,fun k hk=>hbel.block k fun e=>hk ⟨hcap,e⟩⟩ hz (fun _ q' hq'=>?_) (fun j hj _=>?_) fun j z hj=>?_⟩
       · obtain ⟨c1,t1,f1,g1,g2,g3⟩:=hq'
         obtain ⟨c2,t2,f2,g4,g5,g6⟩:=oc
         rw [g1] at g4
         cases g4
         rw [g2] at g5
         rw [g5]
         exact hcc
       · rw [hat]
         exact hout j (by rw [hdrs_len];exact hj)
       · rw [hat]
         exact hin j z hj
 · rename_i ap sz es ap2 sz2 es2 hrd hrs
   simp only [Bool.and_eq_true] at ha
   split at ha <;> try exact ha.elim
   rename_i hb
   obtain ⟨hb1,hb2⟩:=hb
   have hb1:=Nat.eq_of_beq_eq_true hb1
   obtain rfl:=Nat.eq_of_beq_eq_true hb2
   rw [hszOf] at hb1
   rw [hrd] at hrs
   cases hrs
   obtain ⟨hle1,hle2,hsome,hK⟩:=ha
   rw [setK_eq] at hK
   obtain ⟨d1,d2,d3,d4⟩:=h.obj rd _ hrd
   obtain ⟨n,hn⟩ : ∃ n,min ns nd=n:=⟨_,rfl⟩
   rw [hn] at hK hsome
   have hcell:∀ j,j<n→∃ p z,es[os+j]? = some (some p)∧w.cell? ((L rd).h.at (os+j) 0)=some z∧Hdr p.1 0 p.2.length none false z:=fun j hj=>by
     obtain ⟨q,hq⟩ : ∃ q,es[os+j]? = some q:=⟨_,List.getElem?_eq_getElem (by omega)⟩
     have hm:q∈(es.drop os).take n:=List.mem_of_getElem? (i:=j) (by rw [List.getElem?_take_of_lt hj,List.getElem?_drop,hq])
     obtain ⟨p,rfl⟩:=Option.isSome_iff_exists.1 (hsome q hm)
     obtain ⟨_,⟨z,e2,e3⟩,_⟩:=d4 _ p hq
     exact ⟨p,z,hq,e2,e3⟩
   have hsrc:=hdrs_src (w:=w) (n:=n) hhs d1 (by omega) fun j hj=>by obtain ⟨p,z,_,h1,_⟩:=hcell j hj;exact ⟨z,h1⟩
   have hvl:(hdrs w (L rd).h os n).length=min ns nd*i.size:=by rw [hdrs_len,hn,hb1,Nat.mul_one]
   have hone:∀ z∈hdrs w (L rd).h os n,OneCell z=true:=fun z hz=>by
     obtain ⟨j,hj⟩:=List.mem_iff_getElem?.1 hz
     have hjn:j<n:=by have:=(List.getElem?_eq_some_iff.1 hj).1;rwa [hdrs_len] at this
     obtain ⟨p,y,_,h1,h2⟩:=hcell j hjn
     rw [hdrs_get hjn,h1,Option.getD_some] at hj
     obtain rfl:=Option.some.inj hj
     exact h2.one
   obtain ⟨a,k,rfl,hno,hdst⟩:=hdr_dst hhd (fun hc=>(d3 hc).1) (by omega)
   have hlen:((es.drop os).take n).length=n:=by simp;omega
   have key:∀ w',Bel (fun k=>¬((L rd).h.cap≠0∧k=(L rd).h.blk)) w w'→w'.heap.size=w.heap.size→((L rd).h.cap≠0→∀ q,Cells w (L rd).h.blk q→Cells w' (L rd).h.blk q) →
       (∀ j,(j<od∨od+n≤j)→(L rd).h.cap≠0→w'.cell? ((L rd).h.at j 0)=w.cell? ((L rd).h.at j 0))→(∀ j z,(hdrs w (L rd).h os n)[j]? = some z→w'.cell? ((L rd).h.at (od+j) 0)=some z) →
       Left B R w0 H.length L K (.int .i64 (min ns nd:Nat)) w':=by
     intro w' k1 k2 k3 k4 k5
     have hnB:∀ k,B k→¬((L rd).h.cap≠0∧k=(L rd).h.blk):=fun k hk hh=>(h.own rd _ k hrd (.inl hh)).1 hk
     have hget:∀ (j:Nat) (p:ILoc×List (List FC)),(over es od ((es.drop os).take n))[j]? = some (some p)→∃ j2,es[j2]? = some (some p)∧(j2=j∧(j<od∨od+n≤j)∨∃ q,q<n∧j=od+q∧j2=os+q):=fun j p hj=>by
       rw [over_get (by omega),hlen] at hj
       split at hj
       · exact ⟨j,hj,.inl ⟨rfl,by omega⟩⟩
       · split at hj
         · rw [List.getElem?_take_of_lt (by omega),List.getElem?_drop] at hj
           exact ⟨_,hj,.inr ⟨j-od,by omega,by omega,rfl⟩⟩
         · exact ⟨j,hj,.inl ⟨rfl,by omega⟩⟩
     have hrel:=h.put (M:=[]) (L':=L) (H':=H.set rd (.rows3 false sz (over es od ((es.drop os).take n)))) (w':=w') rd (.rows3 false sz (over es od ((es.drop os).take n)))
       (by simp) (List.getElem?_set_self hrdN) (fun j hj o ho=>by
         rw [List.getElem?_set_ne (Ne.symm hj)] at ho
         exact ⟨o,ho,(killO_nil o).symm⟩) (Agree.refl _ _ _) (fun _ _=>rfl)
       ⟨k1.os,k1.tape,k1.output,k1.size,fun k hk=>k1.block k (hnB k hk)⟩ (fun b _=>by
         by_cases hh:(L rd).h.cap≠0∧b=(L rd).h.blk
         · exact .inr ⟨_,hrd,.inl hh⟩
         · exact .inl (k1.block b hh)) (fun b hb=>by
         have ho:Own (.rows3 ap sz es) (L rd) b:=by
           rcases hb with hb | ⟨j,p,hj,hc,rfl⟩
           · exact .inl hb
           · obtain ⟨j2,hj2,_⟩:=hget j p hj
             exact .inr ⟨j2,p,hj2,hc,rfl⟩
         obtain ⟨g1,g2,_⟩:=h.own rd _ b hrd ho
         exact ⟨g1,by omega,.inr ⟨_,hrd,ho⟩⟩) (fun b hb=>hb.elim) (by
         refine ⟨d1,by rw [over_length (by omega)];exact d2,fun hc=>⟨(d3 hc).1,(d3 hc).2.elim fun q hq=>⟨q,hq.1,k3 hc q hq.2⟩⟩,fun j p hj=>?_⟩
         have hlt:j<es.length:=by have:=(List.getElem?_eq_some_iff.1 hj).1;rwa [over_length (by omega)] at this
         have hcap:(L rd).h.cap≠0:=by omega
         obtain ⟨j2,hj2,hjj⟩:=hget j p hj
         obtain ⟨e1,⟨z,e2,e3⟩,e4⟩:=d4 j2 p hj2
         refine ⟨e1.mono fun hc=>k1.block _ fun hh=>(e4 hc).1 hcap hh.2,⟨z,?_,e3⟩,fun hc=>⟨(e4 hc).1,fun h=>by cases h⟩⟩
         rcases hjj with ⟨rfl,hjo⟩ | ⟨q,hq,rfl,rfl⟩
         · rw [k4 _ hjo hcap];exact e2
         · exact k5 q z (by rw [hdrs_get hq,e2];rfl))
     refine ⟨L,_,[],_,Agree.refl _ _ _,by simp,?_,hrel,hK⟩
     rw [hn]
     rfl
   by_cases hn0:n=0
   · have hnil:hdrs w (L rd).h os n=[]:=List.length_eq_zero_iff.1 (by rw [hdrs_len];exact hn0)
     rw [hnil] at hsrc hvl
     exact ⟨_,w,run_copy ht hi hsrc hvl (fun a0 _=>rfl) (fun _=>rfl),key w (Bel.refl _ _) rfl (fun _ _ hq=>hq) (fun _ _ _=>rfl) fun j z hz=>by rw [hnil] at hz;simp at hz⟩
   · cases a with
     | none=>exact absurd (hno rfl) (by omega)
     | some a0 =>
       rcases hdst a0 rfl with hm | ⟨hcap,rfl⟩
       · omega
       obtain ⟨ob,q,hq,oc⟩:=d3 hcap
       have hat:∀ j,(L rd).h.at j 0 = ⟨(L rd).h.blk,j,none⟩:=fun j=>by simp [ILoc.at,ob,d1]
       obtain ⟨w',hr,hbel,hk,hz,hcc,hout,hin⟩:=store_raw (P:=P) (off:=od) oc (hdrs w (L rd).h os n) hone (by rw [hdrs_len];omega)
       have hr':(storeCells ⟨(L rd).h.blk,od*(L rd).h.sz,none⟩ (hdrs w (L rd).h os n)).run P w=.ok () w':=by rw [d1,Nat.mul_one];exact hr
       refine ⟨_,w',run_copy ht hi hsrc hvl (fun a1 e=>by cases e;exact hr') (fun e=>by cases e),key w' ⟨hbel.os,hbel.tape,hbel.output,hbel.size,fun k hk=>hbel.block k fun e=>hk ⟨hcap,e⟩⟩ hz (fun _ q' hq'=>?_) (fun j hj _=>?_) fun j z hj=>?_⟩
       · obtain ⟨c1,t1,f1,g1,g2,g3⟩:=hq'
         obtain ⟨c2,t2,f2,g4,g5,g6⟩:=oc
         rw [g1] at g4
         cases g4
         rw [g2] at g5
         rw [g5]
         exact hcc
       · rw [hat]
         exact hout j (by rw [hdrs_len];exact hj)
       · rw [hat]
         exact hin j z hj

end

end Go.Mac
end
