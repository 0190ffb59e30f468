/- Texts that belong together; the first of them:  -/
import Derived.Test.YtollgfhpcidkgaaGreatDoorMacSlc2
import Derived.Laws.BytesString
import Derived.MapKept
import Derived.WideKeyRuns

section
namespace Go.Mac
open Go

section

variable {B R:Nat→Prop} {w0:World} {N:Nat} {L:Nat→Loc} {H:List PO} {P:Program} {w:World}

theorem zrow_spec {e:TypeId} {k:TypeInfo→List FC→Prop} (h:zrowA P e k):∃ i z zf,P.info? e=some i∧i.zero=some z∧0<i.size∧z.cells.toList=zf.map FC.val∧zf.length=i.size∧k i zf:=by
 unfold zrowA at h
 split at h <;> try exact h.elim
 rename_i i z hi hz
 simp only [cond_eq_ite,Bool.and_eq_true] at h
 split at h <;> try exact h.elim
 rename_i hc
 have hsz:0<i.size:=by simpa [Nat.blt_eq] using hc.1
 have hzl:=lenIs_spec _ _ hc.2
 split at h <;> try exact h.elim
 rename_i zf hzf
 obtain ⟨zv,hzv,hzr⟩:=zero_spec (N:=0) (L:=fun _=>⟨⟨0,0,0,0⟩,fun _=>⟨0,0,0,0⟩⟩) hi hz
 have hzc:=VP.cells hzr
 rw [fcs_spec hzf] at hzc hzl
 exact ⟨i,zv,zf,hi,hzv,hsz,VCs_f hzc,by simpa using hzl,h⟩

theorem store_rows (h:Rel B R w0 L H w) {r sz:Nat} {rs:List (List FC)} (hrs:H[r]? = some (.rows false sz rs)) {o m:Nat} {xs:List (List FC)} (hxs:∀ q∈xs,q.length=sz) (hxm:xs.length=m) (hm:0<m) (hle:o+m≤rs.length) :
 ∃ w',(storeCells ((L r).h.at o 0) (vals xs) 0).run P w=.ok () w'∧Rel B R w0 L (H.set r (.rows false sz (rs.take o++xs++rs.drop (o+m)))) w':=by
 obtain ⟨osz,hsz,ocap,oown,ocell⟩:=h.obj r _ hrs
 have hcap0:(L r).h.cap≠0:=by omega
 obtain ⟨hb0,q,hq,hcc⟩:=oown rfl hcap0
 have hxl:=vals_length hxs
 rw [hxm] at hxl
 have hfit:o*sz+(vals xs).length≤q:=by
  rw [hxl,←Nat.add_mul];exact Nat.le_trans (Nat.mul_le_mul_right _ (by omega)) hq
 have hat':∀ i' g,(L r).h.at i' g = ⟨(L r).h.blk,i'*sz+g,none⟩:=fun i' g=>by simp [ILoc.at,hb0,osz]
 rw [hat',Nat.add_zero]
 exact store_cells (P:=P) h hrs (o':=.rows false sz (rs.take o++xs++rs.drop (o+m))) (b:=(L r).h.blk) (off:=o*sz) (n:=q) ⟨hcap0,rfl⟩ (fun _=>Iff.rfl) (fun _=>Iff.rfl) hcc (vals xs) vals_one hfit
  (fun w' hk' hcc' hout hin=>by
    refine ⟨osz,hsz,by simp;omega,fun _ _=>⟨hb0,q,hq,hcc'⟩,fun j p hp=>?_⟩
    have hp':(j<o∨o+m≤j)∧rs[j]? = some p∨(o≤j∧j<o+m)∧xs[j-o]? = some p:=by
     rw [List.append_assoc] at hp
     rcases Nat.lt_or_ge j o with hj | hj
     · rw [List.getElem?_append_left (by simp;omega),List.getElem?_take,if_pos hj] at hp
       exact .inl ⟨.inl hj,hp⟩
     · rw [List.getElem?_append_right (by simp;omega)] at hp
       simp only [List.length_take,Nat.min_eq_left (show o≤rs.length by omega)] at hp
       rcases Nat.lt_or_ge j (o+m) with hj2 | hj2
       · rw [List.getElem?_append_left (by omega)] at hp
         exact .inr ⟨⟨hj,hj2⟩,hp⟩
       · rw [List.getElem?_append_right (by omega),List.getElem?_drop,hxm,show o+m+(j-o-m)=j by omega] at hp
         exact .inl ⟨.inr hj2,hp⟩
    rcases hp' with ⟨hj,hp'⟩ | ⟨hj,hp'⟩
    · refine ⟨(ocell j p hp').1,fun f x hf=>?_⟩
      have hfl:f<sz:=by have:=(List.getElem?_eq_some_iff.1 hf).1;rw [(ocell j p hp').1] at this;exact this
      have h1:=(ocell j p hp').2 f x hf
      rw [hat'] at h1 ⊢
      rw [hout _ ?_,h1]
      rw [hxl]
      rcases hj with hj | hj
      · left
        have:(j+1)*sz≤o*sz:=Nat.mul_le_mul_right _ hj
        rw [Nat.add_mul] at this;omega
      · right
        have:(o+m)*sz≤j*sz:=Nat.mul_le_mul_right _ hj
        rw [Nat.add_mul] at this;omega
    · refine ⟨hxs p (List.mem_of_getElem? hp'),fun f x hf=>?_⟩
      have:=hin _ _ (flat_get hxs hp' hf)
      rw [hat']
      rw [←this]
      congr 2
      rw [←Nat.add_assoc,←Nat.add_mul]
      congr 2;omega)

theorem zeroCells_rows {z:Array Value} {zf:List FC} (hz:z.toList=zf.map FC.val) (hpos:0<zf.length) (n:Nat):(Builtin.zeroCells z n).toList=vals (List.replicate n zf):=by
 have hzs:z.size=zf.length:=by simpa using congrArg List.length hz
 have hall:∀ r∈List.replicate n zf,r.length=zf.length:=fun r hr=>by rw [List.eq_of_mem_replicate hr]
 have hlen:=vals_length hall
 simp only [List.length_replicate] at hlen
 refine List.ext_getElem? fun j=>?_
 rcases Nat.lt_or_ge j (n*zf.length) with hj | hj
 · obtain ⟨v,hv⟩ : ∃ v,(vals (List.replicate n zf))[j]? = some v:=⟨_,List.getElem?_eq_getElem (by rw [hlen];exact hj)⟩
   rw [hv]
   obtain ⟨a,f,r,y,rfl,hf,ha,hr,rfl⟩:=vals_get hall hpos hv
   have hrz:r=zf:=List.eq_of_mem_replicate (List.mem_of_getElem? ha)
   subst hrz
   have h1:z[f]? = some y.val:=by
    have:=congrArg (·[f]?) hz
    simp only [List.getElem?_map,hr,Array.getElem?_toList] at this
    exact this
   have h2:(a*r.length+f) % z.size=f:=by rw [hzs,Nat.mul_comm,Nat.mul_add_mod,Nat.mod_eq_of_lt hf]
   simp only [Builtin.zeroCells,Array.toList_map,Array.toList_range,List.getElem?_map]
   rw [List.getElem?_range (by rw [hzs];exact hj)]
   simp only [Option.map_some,h2]
   rw [getElem!_def,h1]
 · rw [List.getElem?_eq_none (by rw [Array.length_toList,size_zeroCells,hzs];exact hj),List.getElem?_eq_none (by rw [hlen];exact hj)]

theorem clear_sound (h:Rel B R w0 L H w) {ts:List TypeId} {ty:TypeId} {x:AV} {v:Value} (hx:VA H.length L x v) {K:List PO→Prop} (hs:clearA P H ts x K) :
 ∃ w' H',(Builtin.clear_ ts.toArray ty #[v]).run P w=.ok (.tuple #[]) w'∧H.length≤H'.length∧Rel B R w0 L H' w'∧K H':=by
 unfold clearA at hs
 split at hs <;> try exact hs.elim
 rename_i t
 split at hs <;> try exact hs.elim
 rename_i e he
 obtain ⟨i,z,zf,hi,hz,hsz,hzc,hzl,hs⟩:=zrow_spec hs
 have ht:=elemT_spec he
 split at hs <;> try exact hs.elim
 · obtain rfl:=hx
   exact ⟨w,H,by simp [Builtin.clear_,run_underlying_some ht],Nat.le_refl _,h,hs⟩
 · rename_i r o n _ _ _
   obtain ⟨hr,hh⟩:=hx
   rw [nth_eq] at hs
   split at hs <;> try exact hs.elim
   rename_i sz rs hrs
   simp only [cond_eq_ite] at hs
   split at hs <;> try exact hs.elim
   rename_i hb
   have hb:=Nat.eq_of_beq_eq_true hb
   subst hb
   obtain ⟨hle,hK⟩:=hs
   rw [setK_eq] at hK
   rcases Nat.eq_zero_or_pos n with hn | hn
   · subst hn
     have hset:H.set r (.rows false i.size (rs.take o++List.replicate 0 zf++rs.drop (o+0)))=H:=List.ext_getElem? fun j=>by
      by_cases hj:j=r
      · subst hj;rw [List.getElem?_set_self (List.getElem?_eq_some_iff.1 hrs).1,hrs];simp
      · rw [List.getElem?_set_ne (Ne.symm hj)]
     rw [hset] at hK
     rcases hh with ⟨_,_,rfl,_⟩ | ⟨a,k,rfl,_⟩
     · exact ⟨w,H,by simp [Builtin.clear_,run_underlying_some ht],Nat.le_refl _,h,hK⟩
     · exact ⟨w,H,by simp [Builtin.clear_,run_underlying_some ht],Nat.le_refl _,h,hK⟩
   · obtain ⟨k,rfl,hnk,_⟩:=hh.pos hn
     obtain ⟨w',hrun,hrel⟩:=store_rows (P:=P) h hrs (o:=o) (m:=n) (xs:=List.replicate n zf) (fun q hq=>by rw [List.eq_of_mem_replicate hq];exact hzl) (by simp) hn hle
     refine ⟨w',_,?_,by simp,hrel,hK⟩
     obtain ⟨n,rfl⟩ : ∃ m,n=m+1:=⟨n-1,by omega⟩
     rw [←zeroCells_rows hzc (by omega)] at hrun
     simp [Builtin.clear_,run_underlying_some ht,zeroValue,typeInfo,hi,hz,hrun]

theorem new_rows' (h:Rel B R w0 L H w) {sz n cap:Nat} {rs:List (List FC)} {c:Array Value} {e:TypeId} {fr:Nat×Nat} (hfr:∀ i,i<c.size→¬(fr.1≤i∧i<fr.2)) (hsz:0<sz) (hs:∀ r∈rs,r.length=sz) (hl:rs.length=n) (hcap:n≤cap) (hc:c.size=cap*sz)
 (hg:∀ (j:Nat) (v:Value),(vals rs)[j]? = some v→c[j]? = some v) {K:KP} (hK:K (cv (.slc H.length 0 n none true)) [] (H++[.rows false sz rs])) :
 Left B R w0 H.length L K (.slice (some ⟨w.heap.size,0,none⟩) n cap) (w.alloc (.cells c e fr)):=by
 have hR:=rows_of_cells (w:=w.alloc (.cells c e fr)) (heap_alloc_eq w _) hc hfr hsz (by omega) (Nat.le_refl _) hs hg true
 obtain ⟨h1,h2⟩:=alloc_sound h (.rows false sz rs) ⟨⟨w.heap.size,0,cap,sz⟩,fun _=>⟨0,0,0,0⟩⟩ c e (fun b hb=>hb.2) (fun b hb=>hb) hR
 refine ⟨_,_,[],_,h1,by simp,?_,h2,hK⟩
 refine ⟨by simp,.inr ⟨_,cap,rfl,hcap,by simp,?_,?_,fun _=>?_⟩⟩ <;> rw [upd_self] <;> simp [ILoc.at]

theorem grow_sound (h:Rel B R w0 L H w) {ts:List TypeId} {ty:TypeId} {k:IntKind} {m:Int} {K:KP} (ha:growA P H ts m K) :
 ∃ r w',(Builtin.append_ ts.toArray ty #[.slice none 0 0,.int k m]).run P w=.ok r w'∧Left B R w0 H.length L K r w':=by
 unfold growA at ha
 split at ha <;> try exact ha.elim
 rename_i t u
 split at ha <;> try exact ha.elim
 rename_i e ku he hu
 obtain ⟨i,z,zf,hi,hz,hsz,hzc,hzl,hm0,h47,h63,hK⟩:=zrow_spec ha
 have ht:=elemT_spec he
 have hK:=snocK_spec hK
 obtain ⟨n,rfl⟩:=Int.eq_ofNat_of_zero_le (show 0≤m by omega)
 rw [Int.toNat_natCast] at h47 hK
 have hn:n≠0:=by omega
 have hzs:z.cells.size=i.size:=by rw [←hzl];simpa using congrArg List.length hzc
 have hw:IntKind.i64.wrap ((n:Nat):Int)=n:=by
  have e1:((n:Int)) % 18446744073709551616=n:=by omega
  show (if (true && decide ((n:Int) % 18446744073709551616≥9223372036854775808))=true then (n:Int) % 18446744073709551616-18446744073709551616 else (n:Int) % 18446744073709551616)=n
  rw [e1,if_neg (by simp;omega)]
 have hfit:=growslice_fits (need:=n) (old:=0) (by omega) h47
 have k1:¬(9223372036854775807<(n:Int)):=by omega
 have k2:¬(281474976710656<Builtin.nextslicecap n 0*i.bytes):=by omega
 have k3:¬((281474976710656:Int)<(n:Int)*(i.bytes:Int)):=by
  have:((n*i.bytes:Nat):Int)≤140737488355328:=by omega
  rw [Int.natCast_mul] at this
  omega
 have k4:¬((n:Int)<0):=by omega
 have k5:¬(n*i.size=0):=by
  intro e0
  rcases Nat.mul_eq_zero.1 e0 with e1 | e1 <;> omega
 have hcap:=grownCap_ge w n 0 e
 have hai:(asInt (Value.int k (n:Int))).run P w=.ok (n:Int) w:=rfl
 have hr:(Builtin.append_ #[t,u] ty #[.slice none 0 0,.int k (n:Int)]).run P w=.ok (.slice (some ⟨w.heap.size,0,none⟩) n (grownCap w n 0 e))
  (w.drew.alloc (.cells (Builtin.zeroCells z.cells n++Builtin.zeroCells z.cells (grownCap w n 0 e-n)) e)):=by
  simp [Builtin.append_,run_underlying_some ht,run_underlying_some hu,sizeOf,typeInfo,zeroValue,hi,hz,hn,k1,k2,k3,k4,k5,hw,Question.forced,run_firstCells_none,newRow,grownCap,hai]
 have hl:=new_rows' (fr:=(0,0)) h.drew (c:=Builtin.zeroCells z.cells n++Builtin.zeroCells z.cells (grownCap w n 0 e-n)) (e:=e) (sz:=i.size) (n:=n) (cap:=grownCap w n 0 e) (rs:=List.replicate n zf)
  (fun i hi=>by dsimp only;omega) hsz (fun r hr=>by rw [List.eq_of_mem_replicate hr];exact hzl) (by simp) hcap (by rw [Array.size_append,size_zeroCells,size_zeroCells,hzs,←Nat.add_mul];congr 1;omega) (fun j v hj=>by
    have hz2:=zeroCells_rows hzc (by omega) n
    have hjl:j<(Builtin.zeroCells z.cells n).size:=by
     have:=(List.getElem?_eq_some_iff.1 hj).1
     rw [←hz2] at this
     simpa using this
    rw [Array.getElem?_append_left hjl,←Array.getElem?_toList,hz2]
    exact hj) hK
 exact ⟨_,_,hr,hl⟩

theorem freeze_alloc (w:World) (c:Array Value) (e:TypeId):(w.alloc (.cells c e)).freeze ⟨w.heap.size,c.size,none⟩ 1=w.alloc (.cells c e (c.size,c.size+1)):=by
 simp only [World.freeze,World.alloc,if_neg (show ¬(1=0) by decide)]
 congr 1
 apply Array.ext'
 simp only [Array.toList_modify,Array.toList_push]
 refine List.ext_getElem? fun j=>?_
 rw [List.getElem?_modify]
 by_cases hj:w.heap.size=j
 · subst hj
   simp
 · simp only [if_neg hj]
   rcases Nat.lt_or_gt_of_ne hj with h | h
   · rw [List.getElem?_eq_none (by simp;omega),List.getElem?_eq_none (by simp;omega)]
     rfl
   · rw [List.getElem?_append_left (by simpa using h),List.getElem?_append_left (by simpa using h)]
     simp

theorem shape_alloc (w:World) (c:Array Value) (e:TypeId) (fr:Nat×Nat):(w.alloc (.cells c e fr)).shape? w.heap.size=some (e,c.size):=by
 unfold World.shape?
 rw [heap_alloc_eq]

theorem vals_single {α : Type} (g : α→FC):∀ l:List α,vals (l.map fun b=>[g b])=l.map fun b=>(g b).val
 | []=>rfl
 | b::l=>by
   have:=vals_single g l
   simp only [vals,List.map_cons,List.flatten_cons,List.map_append] at this ⊢
   rw [this]
   rfl

theorem bytes_split {xs:List (List FC)} (h:∀ y∈xs,∃ m,y=[FC.int .u8 m]):∃ ns:List Int,xs=ns.map fun n=>[FC.int .u8 n]:=by
 induction xs with
 | nil=>exact ⟨[],rfl⟩
 | cons y ys ih =>
   obtain ⟨ns,hns⟩:=ih fun y hy=>h y (by simp [hy])
   obtain ⟨m,hm⟩:=h y (by simp)
   exact ⟨m::ns,by simp [hns,hm]⟩

theorem strBytes_sound (h:Rel B R w0 L H w) {s d e:TypeId} {ds:TypeDesc} (hs:P.underlying s=some ds) (hd:P.underlying d=some (.slice e)) (he:P.underlying e=some (.int .u8)) {t:List UInt8} {K:KP}
 (hK:K (cv (.slc H.length 0 t.length none true)) [] (H++[.rows false 1 (t.map fun b=>[.int .u8 b.toNat])])) :
 ∃ r w',(convert s d (.string ⟨t.toArray⟩)).run P w=.ok r w'∧Left B R w0 H.length L K r w':=by
 have hcap:=grownCap_ge w t.length 0 e
 have hlen:(t.map fun b=>Value.int IntKind.u8 (b.toNat:Int)).length=t.length:=by simp
 have hvals:vals (t.map fun b=>[FC.int .u8 b.toNat])=t.map fun b=>Value.int .u8 (b.toNat:Int):=vals_single _ t
 have hl:=new_rows' (fr:=((t.map fun b=>Value.int IntKind.u8 (b.toNat:Int)).toArray++Array.replicate (grownCap w t.length 0 e-t.length) (Value.int .u8 0)).size |> fun n=>(n,n+1)) h.drew
  (c:=(t.map fun b=>Value.int IntKind.u8 (b.toNat:Int)).toArray++Array.replicate (grownCap w t.length 0 e-t.length) (Value.int .u8 0)) (e:=e) (sz:=1) (n:=t.length) (cap:=grownCap w t.length 0 e) (rs:=t.map fun b=>[FC.int .u8 b.toNat])
  (fun i hi=>by dsimp only;omega) (by decide) (fun r hr=>by obtain ⟨b,_,rfl⟩:=List.mem_map.1 hr;rfl) (by simp) hcap (by simp;omega) (fun j v hj=>by
    rw [hvals] at hj
    have:j<t.length:=by have:=(List.getElem?_eq_some_iff.1 hj).1;simpa using this
    rw [Array.getElem?_append_left (by simpa using this)]
    simpa using hj) hK
 refine ⟨_,_,?_,hl⟩
 have hf:=freeze_alloc w.drew ((t.map fun b=>Value.int IntKind.u8 (b.toNat:Int)).toArray++Array.replicate (grownCap w t.length 0 e-t.length) (Value.int .u8 0)) e
 rw [←hf]
 have hsz:(ByteArray.mk t.toArray).size=t.length:=rfl
 have hd0:(ByteArray.mk t.toArray).data.map (fun b=>Value.int .u8 (b.toNat:Int))=(t.map fun b=>Value.int IntKind.u8 (b.toNat:Int)).toArray:=by simp
 have hb:(Conv.stringToBytes e ⟨t.toArray⟩).run P w=.ok (.slice (some ⟨w.drew.heap.size,0,none⟩) t.length (grownCap w t.length 0 e))
  ((w.drew.alloc (.cells ((t.map fun b=>Value.int IntKind.u8 (b.toNat:Int)).toArray++Array.replicate (grownCap w t.length 0 e-t.length) (Value.int .u8 0)) e)).freeze ⟨w.drew.heap.size,((t.map fun b=>Value.int IntKind.u8 (b.toNat:Int)).toArray++Array.replicate (grownCap w t.length 0 e-t.length) (Value.int .u8 0)).size,none⟩ 1):=by
  have hC:(ByteArray.mk t.toArray).data.map (fun b=>Value.int .u8 (b.toNat:Int))++Array.replicate (grownCap w t.length 0 e-t.length) (Value.int .u8 0)=(t.map fun b=>Value.int IntKind.u8 (b.toNat:Int)).toArray++Array.replicate (grownCap w t.length 0 e-t.length) (Value.int .u8 0):=by rw [hd0]
  generalize (t.map fun b=>Value.int IntKind.u8 (b.toNat:Int)).toArray++Array.replicate (grownCap w t.length 0 e-t.length) (Value.int .u8 0)=C at hC
  have hno:∀ o,(newObj o:Sem Nat).run P w.drew=.ok w.drew.heap.size (w.drew.alloc o):=fun _=>rfl
  have hch:(choose (.appendCap t.length 0 e):Sem Nat).run P w=.ok (grownCap w t.length 0 e) w.drew:=by simp [Question.forced,grownCap]
  simp only [Conv.stringToBytes,Sem.run_bind,hsz,hch,Result.andThen_ok,newRow,hno,Sem.run_pure,markStringish,run_shape]
  rw [hC,shape_alloc w.drew C e (0,0)]
  simp only [run_freeze,Result.andThen_ok]
 have:(convert s d (.string ⟨t.toArray⟩)).run P w=(Conv.stringToBytes e ⟨t.toArray⟩).run P w:=by
  simp only [convert,Sem.run_bind,run_underlying_some hs,run_underlying_some hd,Result.andThen_ok]
  cases ds <;> simp only [run_underlying_some he,Result.andThen_ok]
 rw [this,hb]

theorem foldl_push (ns:List Int):∀ r:ByteArray,(ns.foldl (fun r n=>r.push (UInt8.ofNat n.toNat)) r) = ⟨r.data++(ns.map fun n=>UInt8.ofNat n.toNat).toArray⟩:=by
 induction ns with
 | nil=>intro r;simp
 | cons n ns ih =>
   intro r
   rw [List.foldl_cons,ih]
   congr 1
   simp [ByteArray.push]

theorem bytesStr_sound (h:Rel B R w0 L H w) {s d e:TypeId} (hd:P.underlying d=some .string) (hs:P.underlying s=some (.slice e)) (he:P.underlying e=some (.int .u8)) (_hsz:szOf P e=1) (hi:(P.info? e).isSome=true) {x:AV} {v:Value} (hx:VA H.length L x v)
 {k:List UInt8→Prop} (hk:rowsOfA P H e x fun xs=>(∀ y∈xs,∃ m,y=[.int .u8 m])∧k (xs.map byteOf)) :
 ∃ t,(convert s d v).run P w=.ok (.string ⟨t.toArray⟩) w∧k t:=by
 obtain ⟨i,hi⟩:=Option.isSome_iff_exists.1 hi
 obtain ⟨xs,n,⟨hall,hk⟩,hxn,_,hv⟩:=rowsOf_sound h hi hx hk
 refine ⟨_,?_,hk⟩
 rcases hv with ⟨h0,rfl⟩ | ⟨a,c,rfl,hcell⟩
 · have hx0:xs=[]:=List.length_eq_zero_iff.1 (by omega)
   subst hx0
   simp [convert,run_underlying_some hs,run_underlying_some hd,run_underlying_some he,Conv.bytesToString]
   rfl
 · have hns:=bytes_split hall
   obtain ⟨ns,rfl⟩:=hns
   have hvals:vals (ns.map fun n=>[FC.int .u8 n])=ns.map (Value.int .u8):=vals_single _ ns
   have hload:(loadCells a n).run P w=.ok (ns.map (Value.int .u8)).toArray w:=by
    have hf:=run_firstCells_some (P:=P) w 1 n a n c (ns.map (Value.int .u8)) (by simpa using hxn) (by rw [←hvals];exact hcell)
    simpa [Builtin.firstCells] using hf
   have hb:=run_bytesToString (P:=P) w a n c ns hload
   rw [foldl_push] at hb
   have:(convert s d (.slice (some a) n c)).run P w=(Conv.bytesToString (.slice (some a) n c)).run P w:=by
    simp only [convert,Sem.run_bind,run_underlying_some hs,run_underlying_some hd,run_underlying_some he,Result.andThen_ok]
   rw [this,hb]
   congr 2
   simp only [List.map_map]
   show ByteArray.mk (#[]++_)=_
   rw [Array.empty_append]
   rfl

end

end Go.Mac
end

section
namespace Go.Mac
open Go

section

variable {B R:Nat→Prop} {w0:World} {N:Nat} {L:Nat→Loc} {H:List PO} {P:Program} {w:World}

theorem makeMap_sound (_h:Rel B R w0 L H w) {t:TypeId} {r:Option Operand} {f:Operand→Value} {K:AV→List PO→Prop} (hs:makeMapA H P t r K) :
 ∃ u w' L' y H',(Instr.makeMap t (r.map f)).run P w=.ok u w'∧Agree H.length [] L L'∧H.length≤H'.length∧Rel B R w0 L' H' w'∧VA H'.length L' y u∧K y H' :=
 (show False from hs).elim

theorem sameS_iff:∀ {a b:List UInt8},sameS a b=true↔a=b
 | [],[]=>by simp [sameS]
 | [],_::_=>by simp [sameS]
 | _::_,[]=>by simp [sameS]
 | x::xs,y::ys=>by
   simp only [sameS,cond_eq_ite]
   by_cases h:x=y
   · subst h
     rw [if_pos (by simp),sameS_iff]
     simp
   · rw [if_neg (fun e=>h (UInt8.toNat_inj.1 (Nat.eq_of_beq_eq_true e)))]
     simp [h]

theorem smT_spec {t e:TypeId} (h:smT P t=some e):∃ k,P.underlying t=some (.map k e)∧P.underlying k=some .string:=by
 unfold smT at h
 split at h
 · rename_i k e' hu
   split at h
   · rename_i hk
     obtain rfl:=Option.some.inj h
     exact ⟨k,hu,hk⟩
   · cases h
 · cases h

theorem bytes_beq (a b:List UInt8):((⟨a.toArray⟩ : ByteArray) == ⟨b.toArray⟩)=sameS a b:=by
 rw [Bool.eq_iff_iff,sameS_iff]
 change ((a.toArray == b.toArray)=true)↔a=b
 simp

theorem findNow_entS {s:List UInt8}:∀ {ks:List (List UInt8)} {vs:List Value} {n:Nat} {i:Nat},ks.length=vs.length →
 (smHas ks s=false∧Instr.findNow .string (.string ⟨s.toArray⟩) (entS ks vs n) i=some none) ∨
 ∃ j v,smHas ks s=true∧vs[j]? = some v∧(∀ (cs:List CV) (z:CV),cs.length=ks.length→cs[j]? = some (smGet ks cs s z))∧Instr.findNow .string (.string ⟨s.toArray⟩) (entS ks vs n) i=some (some (i+j,v))
 | [],[],_,_,_=>.inl ⟨rfl,rfl⟩
 | k::ks,v::vs,n,i,h=>by
   have hb:Instr.sameNow .string (.string ⟨s.toArray⟩) (.string ⟨k.toArray⟩)=some (sameS s k):=by
    simp only [Instr.sameNow]
    rw [bytes_beq]
   cases hs:sameS s k with
   | true =>
     refine .inr ⟨0,v,by simp [smHas,hs],rfl,fun cs z hc=>?_,?_⟩
     · cases cs with
       | nil=>cases hc
       | cons c cs=>simp [smGet,hs]
     · simp only [entS,Instr.findNow,hb,hs]
       rfl
   | false =>
     rcases findNow_entS (ks:=ks) (vs:=vs) (n:=n+1) (i:=i+1) (s:=s) (by simpa using h) with ⟨h1,h2⟩ | ⟨j,u,h1,h2,h3,h4⟩
     · refine .inl ⟨by simp [smHas,hs,h1],?_⟩
       simp only [entS,Instr.findNow,hb,hs]
       exact h2
     · refine .inr ⟨j+1,u,by simp [smHas,hs,h1],by simpa using h2,fun cs z hc=>?_,?_⟩
       · cases cs with
         | nil=>cases hc
         | cons c cs =>
           have:=h3 cs z (by simpa using hc)
           simpa [smGet,hs] using this
       · simp only [entS,Instr.findNow,hb,hs]
         rw [h4,show i+1+j=i+(j+1) by omega]
 | [],_::_,_,_,h=>by cases h
 | _::_,[],_,_,h=>by cases h

theorem VCs.at {x:CV} {v:Value}:∀ {xs:List CV} {vs:List Value} {j:Nat},VCs N L xs vs→xs[j]? = some x→vs[j]? = some v→VC N L x v
 | [],_,j,_,h,_=>by simp at h
 | y::ys,_,0,⟨u,us,rfl,h2,_⟩,h,h'=>by
   simp at h h'
   subst h h'
   exact h2
 | y::ys,_,j+1,⟨u,us,rfl,_,h3⟩,h,h'=>VCs.at h3 (by simpa using h) (by simpa using h')

theorem smLook_sound (h:Rel B R w0 L H w) {t e:TypeId} {r:Nat} {ks:List (List UInt8)} {cs:List CV} {i:AV} {u:Value} {ok:Bool} (ht:smT P t=some e) (hr:H[r]? = some (.smap ks cs)) (hi:VA H.length L i u) {K:AV→Prop} (hs:smLookA P e ks cs i ok K) :
 ∃ y s,(Instr.lookup t (.map (some (L r).h.blk)) u ok).run P w=.ok s w∧VA H.length L y s∧K y:=by
 obtain ⟨k,hu,hk⟩:=smT_spec ht
 unfold smLookA at hs
 split at hs <;> try exact hs.elim
 rename_i s z hz
 replace hs:=hs.h
 obtain rfl:u=.string ⟨s.toArray⟩:=hi
 obtain ⟨vs,hb,hl,hv⟩:=h.obj r _ hr
 have hlv:=hv.length
 obtain ⟨zv,hz1,hz2⟩:=zval_sound (N:=H.length) (L:=L) (w:=w) hz
 have hz2:VC H.length L z zv:=hz2
 have hkey:MapKept.IsKey .string (.string ⟨s.toArray⟩):=by simp [MapKept.IsKey]
 have hck:∀ em,(Instr.checkKey em 10000 k (.string ⟨s.toArray⟩)).run P w=.ok () w:=fun em=>MapKept.run_checkKey (P:=P) (w:=w) hk hkey em 9999
 have hrun:∀ (a:Option (Nat×Value)),(Instr.findKey k (.string ⟨s.toArray⟩) (entS ks vs 0).toArray.toList).run P w=.ok a w →
  (Instr.lookup t (.map (some (L r).h.blk)) (.string ⟨s.toArray⟩) ok).run P w=.ok (if ok then .tuple #[(a.map (·.2)).getD zv,.bool a.isSome] else (a.map (·.2)).getD zv) w:=fun a h2=>by
  cases a with
  | none=>simp [Instr.lookup,run_underlying_some hu,MapKept.run_getObj_map hb,hck,h2,hz1]
  | some b=>simp [Instr.lookup,run_underlying_some hu,MapKept.run_getObj_map hb,hck,h2]
 have fin:∀ (a:Option (Nat×Value)),a.isSome=smHas ks s→(Instr.findKey k (.string ⟨s.toArray⟩) (entS ks vs 0).toArray.toList).run P w=.ok a w→VC H.length L (smGet ks cs s z) ((a.map (·.2)).getD zv) →
  ∃ y x,(Instr.lookup t (.map (some (L r).h.blk)) (.string ⟨s.toArray⟩) ok).run P w=.ok x w∧VA H.length L y x∧K y:=fun a h1 h2 h3=>by
  cases ok with
  | true =>
    refine ⟨.tup [.c (smGet ks cs s z),.c (.f (.bool (smHas ks s)))],_,hrun a h2,?_,hs⟩
    refine ⟨[(a.map fun x:Nat×Value=>x.2).getD zv,.bool a.isSome],rfl,_,_,rfl,h3,_,_,rfl,?_,rfl⟩
    rw [h1]
    rfl
  | false=>exact ⟨cv (smGet ks cs s z),_,hrun a h2,h3,hs⟩
 rcases findNow_entS (s:=s) (ks:=ks) (vs:=vs) (n:=0) (i:=0) (by omega) with ⟨h1,h2⟩ | ⟨j,v,h1,h2,h3,h4⟩
 · refine fin none (by rw [h1];rfl) (MapKept.run_findKey (P:=P) (w:=w) hk h2) ?_
   have:smGet ks cs s z=z:=by
    clear hs hb hv h2 hr hlv hrun fin
    induction ks generalizing cs with
    | nil=>cases cs <;> rfl
    | cons k ks ih =>
      cases cs with
      | nil=>rfl
      | cons c cs =>
        simp only [smHas,cond_eq_ite] at h1
        split at h1
        · cases h1
        · rename_i hne
          simp only [smGet,cond_eq_ite,if_neg hne]
          exact ih (by simpa using hl) h1
   rw [this]
   exact hz2
 · rw [Nat.zero_add] at h4
   exact fin (some (j,v)) (by rw [h1];rfl) (MapKept.run_findKey (P:=P) (w:=w) hk h4) (hv.at (h3 cs z hl.symm) h2)

theorem lookup_sound (h:Rel B R w0 L H w) {t:TypeId} {p q:AV} {v u:Value} {ok:Bool} (hp:VA H.length L p v) (hq:VA H.length L q u) {K:AV→Prop} (hs:lookupA P H t p q ok K) :
 ∃ r s,(Instr.lookup t v u ok).run P w=.ok s w∧VA H.length L r s∧K r:=by
 unfold lookupA at hs
 split at hs <;> try exact hs.elim
 rename_i r
 obtain ⟨hr,rfl⟩:=hp
 rw [nth_eq] at hs
 split at hs <;> try exact hs.elim
 rotate_left
 · rename_i ks cs hes
   split at hs <;> try exact hs.elim
   rename_i e he
   exact smLook_sound h he hes hq hs

theorem update_sound (_h:Rel B R w0 L H w) {t:TypeId} {p q y:AV} {v u z:Value} (_hp:VA H.length L p v) (_hq:VA H.length L q u) (_hy:VA H.length L y z) {K:List PO→Prop} (hs:updateA P H t p q y K) :
 ∃ w' H',(Instr.mapUpdate t v u z).run P w=.ok () w'∧H'.length=H.length∧Rel B R w0 L H' w'∧K H' :=
 (show False from hs).elim

theorem entry_sound (_h:Rel B R w0 L H w) {t:TypeId} {p q:AV} {v u:Value} (_hp:VA H.length L p v) (_hq:VA H.length L q u) {K:AV→List PO→Prop} (hs:entryA P H t p q K) :
 ∃ w' H' y z,(Instr.mapEntry t v u).run P w=.ok z w'∧H'.length=H.length∧Rel B R w0 L H' w'∧VA H.length L y z∧K y H' :=
 (show False from hs).elim

theorem entryStore_sound (_h:Rel B R w0 L H w) {t:TypeId} {p q y:AV} {v u z:Value} (_hp:VA H.length L p v) (_hq:VA H.length L q u) (_hy:VA H.length L y z) {K:List PO→Prop} (hs:entryStoreA H p q y K) :
 ∃ w' H',(Instr.entryStore t v u z).run P w=.ok () w'∧H'.length=H.length∧Rel B R w0 L H' w'∧K H' :=
 (show False from hs).elim

theorem delete_sound (_h:Rel B R w0 L H w) {ts:Array TypeId} {ty:TypeId} {p q:AV} {v u:Value} (_hp:VA H.length L p v) (_hq:VA H.length L q u) {K:List PO→Prop} (hs:deleteA P H ts.toList p q K) :
 ∃ w' H',(Builtin.delete_ ts ty #[v,u]).run P w=.ok (.tuple #[]) w'∧H'.length=H.length∧Rel B R w0 L H' w'∧K H' :=
 (show False from hs).elim

theorem lenH_sound (h:Rel B R w0 L H w) {t ty:TypeId} {p:AV} {v:Value} (hp:VA H.length L p v) {K:AV→Prop} (hs:lenH P H t p K):∃ r s,(Builtin.len_ #[t] ty #[v]).run P w=.ok s w∧VA H.length L r s∧K r:=by
 unfold lenH at hs
 split at hs
 · rename_i r
   obtain ⟨hr,rfl⟩:=hp
   rw [nth_eq] at hs
   split at hs <;> try exact hs.elim
 · exact len_sound hp hs

end

end Go.Mac
end

section
namespace Go.Mac
open Go

section

variable {B R:Nat→Prop} {w0:World} {N:Nat} {L:Nat→Loc} {H:List PO} {P:Program} {w:World}

theorem range_sound (_h:Rel B R w0 L H w) {t:TypeId} {x:AV} {v:Value} (_hx:VA H.length L x v) {K:AV→List PO→Prop} (hs:rangeA P H t x K) :
 ∃ u w' L' y H',(Instr.range t v).run P w=.ok u w'∧Agree H.length [] L L'∧H.length≤H'.length∧Rel B R w0 L' H' w'∧VA H'.length L' y u∧K y H' :=
 (show False from hs).elim

theorem next_sound (_h:Rel B R w0 L H w) {x:AV} {v:Value} {ty:TypeId} (_hx:VA H.length L x v) {K:AV→List PO→Prop} (hs:nextA H x K) :
 ∃ u w' y H',(Instr.next v false ty).run P w=.ok u w'∧H'.length=H.length∧Rel B R w0 L H' w'∧VA H.length L y u∧K y H' :=
 (show False from hs).elim

theorem entAt_sound (_h:Rel B R w0 L H w) {x:AV} {v:Value} (_hx:VA H.length L x v) {K:AV→Prop} (hs:entAtA H x K) :
 ∃ y u,(Instr.entry v).run P w=.ok u w∧VA H.length L y u∧K y :=
 (show False from hs).elim

end

end Go.Mac
end

section
namespace Go.Mac
open Go

section

variable {B R:Nat→Prop} {w0:World} {N:Nat} {L:Nat→Loc} {H:List PO} {P:Program} {w:World}

theorem copy_sound (_h:Rel B R w0 L H w) {ts:List TypeId} {ty:TypeId} {d s:AV} {v u:Value} (_hd:VA H.length L d v) (_hs:VA H.length L s u) {K:KP} (ha:copyA P H ts d s K) :
 ∃ r w',(Builtin.copy_ ts.toArray ty #[v,u]).run P w=.ok r w'∧Left B R w0 H.length L K r w' :=
 (show False from ha).elim

end

end Go.Mac
end
