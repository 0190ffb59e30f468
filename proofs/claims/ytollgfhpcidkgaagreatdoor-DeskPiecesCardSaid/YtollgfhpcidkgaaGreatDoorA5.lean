/- Texts that belong together; the first of them:  -/
import Derived.Test.YtollgfhpcidkgaaGreatDoorA3
import Derived.Lib.Strings
import Derived.Lib.Slices
import Derived.Lib.Walk
import Derived.Lib.Builder
import Derived.Lib.AppendStr
import Derived.Lib.UnsafeStr
import Derived.Laws.Externs
import Derived.Shelf.RegionOpenPlain
import Derived.Test.YtollgfhpcidkgaaGreatDoorProg
import Derived.WalkKit
import Derived.LaidEql
import Derived.Stop.Asserts
import Derived.RowKitTokens

section
open Go Go.Proofs Go.Mac Go.RowKit

namespace Go.Mac.BldKit

theorem size_b:∃ j,Tryz.prog.info? 60=some j∧j.size=2:=by
 have h:(Tryz.prog.info? 60).map (·.size)=some 2:=by kernel_rfl
 exact Option.map_eq_some_iff.1 h

theorem lies_b:liesAt Tryz.prog Tryz.prog.depth 60 (2 / Tryz.prog.cellsOf 60) 0 60 1=true:=by kernel_rfl

theorem info_byte:∃ j,Tryz.prog.info? 5=some j∧j.zero=some (.int .u8 0)∧j.size=1∧j.bytes=1:=by
 have h:(Tryz.prog.info? 5).map (fun i=>(i.zero,i.size,i.bytes))=some (some (.int .u8 0),1,1):=by kernel_rfl
 obtain ⟨j,h1,h2⟩:=Option.map_eq_some_iff.1 h
 simp only [Prod.mk.injEq] at h2
 exact ⟨j,h1,h2⟩

set_option maxHeartbeats 1000000 in
set_option maxRecDepth 100000 in
theorem checkUsed (b:Nat) (w:World) (h0:w.cell? ⟨b,0,none⟩ = some (.pointer (some ⟨b,0,none⟩))) :
 Calls Tryz.prog 49 #[.pointer (some ⟨b,0,none⟩)] w fun e w'=>e=.returned (.tuple #[])∧w'=w:=by
 obtain ⟨j,hj,hjs⟩:=size_b
 go_enter Tryz.func49,Tryz.ntmps49
 go_wp2
 rw [Lib.run_neq_ptr_same w _ Tryz.underlying58 hj]
 go_wp2
 go_end0
 exact ⟨rfl,rfl⟩

set_option maxHeartbeats 1000000 in
set_option maxRecDepth 100000 in
theorem checkFresh (b:Nat) (w:World) (h0:w.cell? ⟨b,0,none⟩ = some (.pointer none)) (hsh:w.shape? b=some (60,2)) (hfz:w.frozen? ⟨b,0,none⟩ = false) :
 Calls Tryz.prog 49 #[.pointer (some ⟨b,0,none⟩)] w fun e w'=>e=.returned (.tuple #[])∧w'=w.setCell ⟨b,0,none⟩ (.pointer (some ⟨b,0,none⟩)):=by
 obtain ⟨j,hj,hjs⟩:=size_b
 go_enter Tryz.func49,Tryz.ntmps49
 go_wp2
 rw [Lib.run_to_unsafe w ⟨b,0,none⟩ Tryz.underlying58 Tryz.underlying122 hj (by rw [hjs];decide) hsh (Nat.zero_lt_succ 1)]
 simp only [Result.andThen]
 rw [Oper.upon_value]
 go_wp2
 rw [run_callFunc_extern Tryz.func102 (by kernel_rfl) (by kernel_rfl) (by kernel_rfl) (e:=Extern.AbiNoEscape.same) (by kernel_rfl),Lib.run_noEscape]
 simp only [Result.andThen]
 rw [Oper.upon_value]
 go_wp2
 rw [Lib.run_from_unsafe w ⟨b,0,none⟩ Tryz.underlying122 Tryz.underlying58 hj hsh lies_b]
 simp only [Result.andThen]
 rw [Oper.upon_value]
 go_wp2
 go_end0
 exact ⟨rfl,rfl⟩

structure At (b:Nat) (p v:Value) (bs:List UInt8) (w:World):Prop where
 blk:w.heap[b]? = some (.cells #[p,v] 60 (0,0))
 adr:p=.pointer none∨p=.pointer (some ⟨b,0,none⟩)
 own:w.ownsRow 0 5 1 v bs.length (bytesV bs)
 ne:v.ownBlock≠some b
 nl:bs=[]→v=.slice none 0 0

theorem cell0 {b:Nat} {p v:Value} {bs:List UInt8} {w:World} (h:At b p v bs w):w.cell? ⟨b,0,none⟩ = some p:=by simp [World.cell?,h.blk]

theorem check (b:Nat) (p v:Value) (bs:List UInt8) (w:World) (h:At b p v bs w) :
 Calls Tryz.prog 49 #[.pointer (some ⟨b,0,none⟩)] w fun e w'=>e=.returned (.tuple #[])∧At b (.pointer (some ⟨b,0,none⟩)) v bs w'∧w.grownBy w' (some b):=by
 rcases h.adr with rfl | rfl
 · refine (checkFresh b w (cell0 h) (by simp [World.shape?,h.blk]) (by simp [World.frozen?,h.blk])).mono ?_
   rintro e w' ⟨rfl,rfl⟩
   have hb:∀ k,k≠b→(w.setCell ⟨b,0,none⟩ (.pointer (some ⟨b,0,none⟩))).heap[k]? = w.heap[k]?:=fun k hk=>heap_setCell_ne _ _ _ _ hk
   refine ⟨rfl,⟨?_,.inr rfl,ownsRow_of_block h.own fun k hk=>hb k fun e=>h.ne (by rw [hk,e]),h.ne,h.nl⟩,⟨rfl,rfl,rfl,by simp [World.setCell],fun k _ hk=>hb k fun e=>hk (by rw [e])⟩⟩
   simp [World.setCell,Array.getElem?_modify,h.blk]
 · refine (checkUsed b w (cell0 h)).mono ?_
   rintro e w' ⟨rfl,rfl⟩
   exact ⟨rfl,h,⟨rfl,rfl,rfl,Nat.le_refl _,fun _ _ _=>rfl⟩⟩

theorem append_own (w:World) (ty:TypeId) (v:Value) (n:Nat) (xs:List Value) (hown:w.ownsRow 0 5 1 v n xs) (s:ByteArray) (h63:n+s.size≤maxLen) (hbytes:n+s.size≤140737488355328) :
 ∃ v' w',(Builtin.append_ #[39,9] ty #[v,.string s]).run Tryz.prog w=.ok v' w'∧w'.ownsRow 0 5 1 v' (n+s.size) (xs++Lib.strCells s)∧w.grownBy w' v.ownBlock∧∀ k,v'.ownBlock=some k→v.ownBlock=some k∨w.heap.size≤k:=by
 obtain ⟨i,hi,hz0,hz1,hz2⟩:=info_byte
 have ht:=Tryz.underlying39
 have hu:=Tryz.underlying9
 obtain ⟨v',w',hr,h1,h2,_⟩:=Lib.run_append_own_string (P:=Tryz.prog) w 0 39 9 ty 5 i ht hu hi hz0 hz1 hz2 v n xs hown s h63 hbytes (Nat.zero_le _)
 refine ⟨v',w',hr,h1,h2,fun k hk=>?_⟩
 have hxl:xs.length=n:=by simpa using hown.1
 rcases hown.2 with ⟨rfl,rfl⟩ | ⟨g,cap,cur,rfl,_,hg,hnc,hcm,hcs,_⟩
 · have hx:xs=[]:=List.eq_nil_of_length_eq_zero hxl
   subst hx
   obtain ⟨v2,w2,hr2,h3,_⟩:=Lib.run_append_own_string (P:=Tryz.prog) w w.heap.size 39 9 ty 5 i ht hu hi hz0 hz1 hz2 (.slice none 0 0) 0 [] (World.ownsRow_nil _ _ _ _) s h63 hbytes (Nat.le_refl _)
   rw [hr] at hr2
   cases hr2
   exact .inr (h3.lt k hk).1
 · by_cases hroom:n+s.size≤cap
   · have hr2:=Lib.run_append_room_string (P:=Tryz.prog) w 39 9 ty 5 i ht hu hi hz1 g n cap cur hg s hroom (by omega)
     rw [hr] at hr2
     cases hr2
     exact .inl hk
   · have holds:∀ j u,xs[j]? = some u→w.cell? ((⟨g,0,none⟩ : Addr).add j)=some u:=hown.cells (g:=g) rfl
     have hr2:=Lib.run_append_grow_string (P:=Tryz.prog) w 39 9 ty 5 i (.int .u8 0) ht hu hi hz0 ⟨g,0,none⟩ n cap xs (by rw [hz1];simpa using hxl) holds s (by omega) (by simp only [maxLen] at h63;omega) (by rw [hz2];exact growslice_fits (by omega) (by omega))
     rw [hr] at hr2
     cases hr2
     obtain rfl:=Option.some.inj hk
     exact .inr (Nat.le_refl _)

theorem wpl_append {w w':World} {ops:Array Oper} {rest:List Oper} {o:Oper} {a:Act} {Q:Exit→Act→World→Prop} (hgd:o.guard=none) (sl x:Operand) (t u:TypeId)
 (ho:o.op=.call { callee:=.builtin .append,args:=#[sl,x],argTypes:=#[t,u] }) {v v' y:Value} (hs:a.eval sl=v) (hx:a.eval x=y)
 (hr:(Builtin.append_ #[t,u] o.type #[v,y]).run Tryz.prog w=.ok v' w') (h:wpList Tryz.prog ops Q rest (a.put o.dst v') w'):wpList Tryz.prog ops Q (o::rest) a w:=by
 refine wpList_plain hgd fun K hK=>?_
 unfold Oper.wp execOp
 simp only [ho,resolve,invoke,builtin,Sem.run_bind,Sem.run_pure,Result.andThen_ok,List.map_toArray,List.map_cons,List.map_nil,hs,hx,hr]
 exact hK _ _ h

set_option maxHeartbeats 2000000 in
set_option maxRecDepth 100000 in
theorem write (b:Nat) (p v:Value) (bs:List UInt8) (s:List UInt8) (w:World) (h:At b p v bs w) (hs:s≠[]) (hlen:bs.length+s.length≤140737488355328) :
 Calls Tryz.prog 29 #[.pointer (some ⟨b,0,none⟩),.string ⟨s.toArray⟩] w fun e w'=>e=.returned (.tuple #[.int .i64 s.length,.nilIface]) ∧
  ∃ v',At b (.pointer (some ⟨b,0,none⟩)) v' (bs++s) w'∧w'.os=w.os∧w'.tape=w.tape∧w'.output=w.output∧w.heap.size≤w'.heap.size∧(∀ k,k<w.heap.size→k≠b→some k≠v.ownBlock→w'.heap[k]? = w.heap[k]?)∧(∀ k,v'.ownBlock=some k→v.ownBlock=some k∨w.heap.size≤k):=by
 obtain ⟨i0,hi,hz0,hz1,hz2⟩:=info_byte
 go_enter Tryz.func29,Tryz.ntmps29
 go_wp2_with (go_at_call 49;refine (check b p v bs _ h).mono ?_)
 rintro e w1 ⟨rfl,h1,hb1⟩
 have hbk:=h1.blk
 have c0:w1.cell? ⟨b,0,none⟩ = some (.pointer (some ⟨b,0,none⟩)):=by simp [World.cell?,hbk]
 have c1:w1.cell? ⟨b,1,none⟩ = some v:=by simp [World.cell?,hbk]
 obtain ⟨v',w2,hrun,hown',hgrow,hfresh⟩:=append_own w1 39 v bs.length (bytesV bs) h1.own ⟨s.toArray⟩ (by show bs.length+s.length≤maxLen;unfold maxLen;omega) hlen
 obtain ⟨ao,n',cap,rfl⟩ : ∃ ao n' cap,v'=.slice ao n' cap:=by
  rcases hown'.2 with ⟨hv,_⟩ | ⟨g,cap,cur,hv,_⟩
  · exact ⟨_,_,_,hv⟩
  · exact ⟨_,_,_,hv⟩
 have hlt0:b<w.heap.size:=(Array.getElem?_eq_some_iff.1 h.blk).1
 have hsz1:=hb1.size
 have hne':(Value.slice ao n' cap).ownBlock≠some b:=fun e=>by
  rcases hfresh b e with h' | h'
  · exact h1.ne h'
  · omega
 have hlt:b<w1.heap.size:=(Array.getElem?_eq_some_iff.1 hbk).1
 have hb2:w2.heap[b]? = some (.cells #[.pointer (some ⟨b,0,none⟩),v] 60 (0,0)):=by
  rw [hgrow.block b hlt (fun e=>h1.ne e.symm)]
  exact hbk
 have d0:w2.cell? ⟨b,0,none⟩ = some (.pointer (some ⟨b,0,none⟩)):=by simp [World.cell?,hb2]
 have d1:w2.cell? ⟨b,1,none⟩ = some v:=by simp [World.cell?,hb2]
 have f1:w2.frozen? ⟨b,1,none⟩ = false:=by simp [World.frozen?,hb2]
 go_wp2_with (at_builtin;refine wpl_append rfl _ _ 39 9 rfl rfl rfl hrun ?_)
 go_ret2
 have hbl:bytesV bs++Lib.strCells ⟨s.toArray⟩ = bytesV (bs++s):=by simp [bytesV,Lib.strCells]
 rw [hbl] at hown'
 have hset:∀ k,k≠b→(w2.setCell ⟨b,1,none⟩ (.slice ao n' cap)).heap[k]? = w2.heap[k]?:=fun k hk=>heap_setCell_ne _ _ _ _ hk
 refine ⟨rfl,.slice ao n' cap,⟨?_,.inr rfl,?_,hne',fun e=>absurd (List.append_eq_nil_iff.1 e).2 hs⟩,hgrow.os.trans hb1.os,hgrow.tape.trans hb1.tape,hgrow.output.trans hb1.output,?_,fun k hk hkb hkv=>?_,fun k hk=>?_⟩
 · simp [World.setCell,Array.getElem?_modify,hb2]
 · rw [List.length_append]
   exact ownsRow_of_block hown' fun k hk=>hset k fun e=>hne' (by rw [hk,e])
 · have:=hb1.size
   have:=hgrow.size
   simp [World.setCell];omega
 · rw [hset k hkb,hgrow.block k (by have:=hb1.size;omega) hkv,hb1.block k hk (fun e=>hkb (Option.some.inj e))]
 · rcases hfresh k hk with h' | h'
   · exact .inl h'
   · exact .inr (by have:=hb1.size;omega)

theorem strNone (W:World) (q:Option Addr):(Builtin.unsafeString_ #[119,3] 9 #[.pointer q,.int .i64 0]).run Tryz.prog W=.ok (.string .empty) W:=Lib.run_unsafeString_none W _ _ _ q

def Read (v:Value) (l:List UInt8) (w:World) (e:Ending) (w':World):Prop:=e=.returned (.string ⟨l.toArray⟩)∧w'.os=w.os∧w'.tape=w.tape∧w'.output=w.output∧w.heap.size≤w'.heap.size∧∀ k,k<w.heap.size→some k≠v.ownBlock→w'.heap[k]? = w.heap[k]?

set_option maxHeartbeats 2000000 in
set_option maxRecDepth 100000 in
theorem stringSome (b:Nat) (p v:Value) (l:List UInt8) (w:World) (h:At b p v l w) (h0:l≠[]) :
 Calls Tryz.prog 31 #[.pointer (some ⟨b,0,none⟩)] w (Read v l w):=by
 have mixed:Tryz.prog.follows .mixedOrders=true:=follows
 have hl0:l.length≠0:=by simpa using h0
 have hown:=h.own
 have hbk:=h.blk
 obtain ⟨g,cap,cur,rfl,hg,hnc,hcm,hcs⟩ : ∃ g cap cur,v=.slice (some ⟨g,0,none⟩) l.length cap∧w.heap[g]? = some (.cells cur 5 (0,0))∧l.length≤cap∧cap≤maxLen∧cur.size=cap:=by
  rcases hown.2 with ⟨_,hz⟩ | ⟨g,cap,cur,hv,_,h1,h2,h3,h4,_⟩
  · exact absurd hz hl0
  · exact ⟨g,cap,cur,hv,h1,h2,h3,by simpa using h4⟩
 have c1:w.drew.cell? ⟨b,1,none⟩ = some (.slice (some ⟨g,0,none⟩) l.length cap):=by
  show w.cell? ⟨b,1,none⟩ = _
  simp [World.cell?,hbk]
 have hSD:(Builtin.unsafeSliceData_ #[39] 119 #[.slice (some ⟨g,0,none⟩) l.length cap]).run Tryz.prog w.drew=.ok (.pointer (some ⟨g,0,none⟩)) w.drew :=
  Lib.run_unsafeSliceData_row _ _ _ _ _ _ (by omega)
 have hUS:(Builtin.unsafeString_ #[119,3] 9 #[.pointer (some ⟨g,0,none⟩),.int .i64 l.length]).run Tryz.prog w.drew=.ok (.string ⟨l.toArray⟩) (w.drew.freeze ⟨g,0,none⟩ l.length):=by
  refine Lib.run_unsafeString_row w.drew 119 3 9 5 Tryz.underlying119 (by kernel_rfl) g cur.size (by have hg':w.drew.heap[g]? = some (.cells cur 5 (0,0)):=hg;simp [World.shape?,hg']) l h0 (by omega) (by unfold maxLen at hcm;omega) ?_
  intro j x hx
  have:=hown.cells (g:=g) rfl j (.int .u8 x.toNat) (by simp [bytesV,hx])
  exact this
 have hfr:∀ k,some k≠(Value.slice (some ⟨g,0,none⟩) l.length cap).ownBlock→(w.drew.freeze ⟨g,0,none⟩ l.length).heap[k]? = w.heap[k]?:=fun k hk=>by
  unfold World.freeze
  split
  · rfl
  · simp only [Array.getElem?_modify]
    rw [if_neg (fun e=>hk (by rw [←e];rfl))]
    rfl
 have hfs:(w.drew.freeze ⟨g,0,none⟩ l.length).heap.size=w.heap.size:=by
  unfold World.freeze
  split <;> simp
 have hfo:(w.drew.freeze ⟨g,0,none⟩ l.length).os=w.os∧(w.drew.freeze ⟨g,0,none⟩ l.length).tape=w.tape∧(w.drew.freeze ⟨g,0,none⟩ l.length).output=w.output:=by
  unfold World.freeze
  split <;> exact ⟨rfl,rfl,rfl⟩
 go_enter Tryz.func31,Tryz.ntmps31
 go_wp2
 go_region_o
 all_goals (go_wp2;go_ret;exact ⟨rfl,hfo.1,hfo.2.1,hfo.2.2,by rw [hfs];exact Nat.le_refl _,fun k _ hk=>hfr k hk⟩)

set_option maxHeartbeats 2000000 in
set_option maxRecDepth 100000 in
theorem stringNone (b:Nat) (p:Value) (w:World) (hbk:w.heap[b]? = some (.cells #[p,.slice none 0 0] 60 (0,0))) :
 Calls Tryz.prog 31 #[.pointer (some ⟨b,0,none⟩)] w (Read (.slice none 0 0) [] w):=by
 have mixed:Tryz.prog.follows .mixedOrders=true:=follows
 have hUS:=strNone
 have c1:w.drew.cell? ⟨b,1,none⟩ = some (.slice none 0 0):=by
  show w.cell? ⟨b,1,none⟩ = _
  simp [World.cell?,hbk]
 have hSD:(Builtin.unsafeSliceData_ #[39] 119 #[.slice none 0 0]).run Tryz.prog w.drew=.ok (.pointer none) w.drew:=rfl
 go_enter Tryz.func31,Tryz.ntmps31
 go_wp2
 go_region_o
 all_goals (go_wp2;go_ret;exact ⟨rfl,rfl,rfl,rfl,Nat.le_refl _,fun _ _ _=>rfl⟩)

theorem string (b:Nat) (p v:Value) (l:List UInt8) (w:World) (h:At b p v l w) :
 Calls Tryz.prog 31 #[.pointer (some ⟨b,0,none⟩)] w (Read v l w):=by
 by_cases h0:l=[]
 · subst h0
   obtain rfl:=h.nl rfl
   exact stringNone b p w h.blk
 · exact stringSome b p v l w h h0

end Go.Mac.BldKit

set_option maxRecDepth 100000

namespace Go.Mac

abbrev bldH (k:Nat) (bs:List UInt8):PO:=.bld 60 5 k bs

section

variable {K:KP}

theorem bldWrite {k:Nat} {bs s:List UInt8} (hs:s≠[]) (hlen:bs.length+s.length≤140737488355328) (h:K (.tup [.c (.f (.int .i64 s.length)),.c .niliface]) [0] [bldH k (bs++s)]) :
 Does Tryz.prog 29 [cv (.hptr k),st s] [bldH k bs] K:=by
 refine ⟨⟨_,Tryz.func29,by decide,rfl⟩,fun B R w0 L w vs hrel hvs=>?_⟩
 obtain ⟨_,_,rfl,rfl,_,_,rfl,rfl,rfl⟩:=hvs
 obtain ⟨hb0,p,v,h1,h2,h3,h4,h5,h6⟩:=hrel.obj 0 _ rfl
 subst hb0
 obtain ⟨o1,o2,_⟩:=hrel.own 0 _ (L 0).h.blk rfl (.inl rfl)
 have hvo:∀ k,v.ownBlock=some k→Own (bldH (L 0).h.blk bs) (L 0) k:=fun k hk=>by
  rw [h4] at hk
  split at hk
  · cases hk
  · rename_i hc
    obtain rfl:=Option.some.inj hk
    exact .inr ⟨hc,rfl⟩
 have hvB:∀ k,v.ownBlock=some k→¬B k∧k<w.heap.size:=fun k hk=>by
  obtain ⟨q1,q2,_⟩:=hrel.own 0 _ k rfl (hvo k hk)
  exact ⟨q1,q2⟩
 refine (BldKit.write (L 0).h.blk p v bs s w ⟨h1,h2,h3,h5,h6⟩ hs hlen).mono ?_
 rintro e w' ⟨rfl,v',⟨a1,a2,a3,a4,a5⟩,b1,b2,b3,b4,b5,b6⟩
 obtain ⟨g,hg⟩ : ∃ g,v'.ownBlock=some g:=by
  rcases a3.2 with ⟨_,hz⟩ | ⟨g,cap,cur,rfl,_⟩
  · rw [List.length_append] at hz
    exact absurd (List.length_eq_zero_iff.1 (by omega)) hs
  · exact ⟨g,rfl⟩
 have hgs:g<w'.heap.size:=by
  rcases a3.2 with ⟨rfl,_⟩ | ⟨g',cap,cur,rfl,_,hh,_⟩
  · cases hg
  · obtain rfl:=Option.some.inj hg
    exact (Array.getElem?_eq_some_iff.1 hh).1
 have hbel:Bel B w w':=⟨b1,b2,b3,b4,fun k hk=>b5 k (hrel.size k hk) (fun e=>o1 (e ▸ hk)) (fun e=>(hvB k e.symm).1 hk)⟩
 refine ⟨_,rfl,upd L 0 ⟨(L 0).h,fun _=>⟨g,0,1,1⟩⟩,.tup [.c (.f (.int .i64 s.length)),.c .niliface],[0],[bldH (L 0).h.blk (bs++s)],fun j _ hm=>upd_ne (by simpa using hm),Nat.le_refl _,⟨_,rfl,_,_,rfl,rfl,_,_,rfl,rfl,rfl⟩,?_,h⟩
 refine hrel.put (M:=[0]) 0 (bldH (L 0).h.blk (bs++s)) (by simp) rfl (fun j hj o1 ho1=>?_) (fun j _ hm=>upd_ne (by simpa using hm)) (fun j hj=>upd_ne hj) hbel (fun k hk=>?_) (fun k hk=>?_) (fun k (hk:False)=>hk.elim) ?_
 · cases j with
   | zero=>exact absurd rfl hj
   | succ j=>simp at ho1
 · by_cases e1:k=(L 0).h.blk
   · exact .inr ⟨_,rfl,.inl e1⟩
   · by_cases e2:some k=v.ownBlock
     · exact .inr ⟨_,rfl,hvo k e2.symm⟩
     · exact .inl (b5 k hk e1 e2)
 · rw [upd_self] at hk
   rcases hk with rfl | ⟨_,hk⟩
   · exact ⟨o1,Nat.lt_of_lt_of_le o2 b4,.inr ⟨_,rfl,.inl rfl⟩⟩
   · have hk:k=g:=hk
     rw [hk]
     rcases b6 g hg with h' | h'
     · exact ⟨(hvB g h').1,hgs,.inr ⟨_,rfl,hvo g h'⟩⟩
     · exact ⟨fun hB=>Nat.lt_irrefl _ (Nat.lt_of_lt_of_le (hrel.size _ hB) h'),hgs,.inl h'⟩
 · rw [upd_self]
   exact ⟨rfl,_,v',a1,a2,a3,by rw [hg];rfl,a4,a5⟩

theorem bldString {k:Nat} {bs:List UInt8} (h:K (st bs) [] [.gone]):Does Tryz.prog 31 [cv (.hptr k)] [bldH k bs] K:=by
 refine ⟨⟨_,Tryz.func31,by decide,rfl⟩,fun B R w0 L w vs hrel hvs=>?_⟩
 obtain ⟨_,_,rfl,rfl,rfl⟩:=hvs
 obtain ⟨hb0,p,v,h1,h2,h3,h4,h5,h6⟩:=hrel.obj 0 _ rfl
 subst hb0
 have hvo:∀ k,v.ownBlock=some k→Own (bldH (L 0).h.blk bs) (L 0) k:=fun k hk=>by
  rw [h4] at hk
  split at hk
  · cases hk
  · rename_i hc
    obtain rfl:=Option.some.inj hk
    exact .inr ⟨hc,rfl⟩
 have hvB:∀ k,v.ownBlock=some k→¬B k∧k<w.heap.size:=fun k hk=>by
  obtain ⟨q1,q2,_⟩:=hrel.own 0 _ k rfl (hvo k hk)
  exact ⟨q1,q2⟩
 refine (BldKit.string (L 0).h.blk p v bs w ⟨h1,h2,h3,h5,h6⟩).mono ?_
 rintro e w' ⟨rfl,b1,b2,b3,b4,b5⟩
 have hbel:Bel B w w':=⟨b1,b2,b3,b4,fun k hk=>b5 k (hrel.size k hk) (fun e=>(hvB k e.symm).1 hk)⟩
 refine ⟨_,rfl,L,st bs,[],[.gone],Agree.refl _ _ _,Nat.le_refl _,rfl,?_,h⟩
 refine hrel.put (M:=[]) 0 .gone (by simp) rfl (fun j hj o1 ho1=>?_) (Agree.refl _ _ _) (fun _ _=>rfl) hbel (fun k hk=>?_) (fun k (hk:False)=>hk.elim) (fun k (hk:False)=>hk.elim) trivial
 · cases j with
   | zero=>exact absurd rfl hj
   | succ j=>simp at ho1
 · by_cases e2:some k=v.ownBlock
   · exact .inr ⟨_,rfl,hvo k e2.symm⟩
   · exact .inl (b5 k hk e2)

end

end Go.Mac
end

section
open Go Go.Proofs

namespace Go.AsKit
open Go.RowKit Go.Extern.Stop Go.Stop Go.Extern

theorem valueOfP (t:Addr) (w:World):(ReflectliteValue.unpack (.iface 145 (.pointer (some t)))).run Tryz.prog w
 = .ok (.agg #[.pointer (some ⟨10,145,none⟩),.pointer (some ⟨w.heap.size,0,none⟩),.int .u64 150]) (w.alloc (.cells #[.pointer (some t)] 145)):=by kernel_rfl
theorem typeP (a:Addr) (w:World):(ReflectliteValue.methodAny (ReflectliteValue.valueError "reflectlite.Value.Type" 0) (fun t _ _ _=>ReflectliteType.toType t) #[.agg #[.pointer (some ⟨10,145,none⟩),.pointer (some a),.int .u64 150]]).run Tryz.prog w
 = .ok (.iface 216 (.agg #[.pointer (some ⟨10,145,none⟩)])) w:=by kernel_rfl
theorem methodKind (h:Value) (w:World):(Go.method 453 216 (.agg #[h]) "Kind").run Tryz.prog w=.ok (297,h) w:=by kernel_rfl
theorem kindP (w:World):((ReflectliteType.abiMethod fun t=>(fun a:Nat=>Value.int IntKind.u8 (a:Int)) <$> Rtype.kind t) #[.pointer (some ⟨10,145,none⟩)]).run Tryz.prog w=.ok (.int .u8 22) w:=by kernel_rfl
theorem kindE (w:World):((ReflectliteType.abiMethod fun t=>(fun a:Nat=>Value.int IntKind.u8 (a:Int)) <$> Rtype.kind t) #[.pointer (some ⟨10,68,none⟩)]).run Tryz.prog w=.ok (.int .u8 2) w:=by kernel_rfl

theorem rlm (z:Sem Value) (f:TypeId→Addr→Nat→Nat→Sem Value) (v:Value) :
 ReflectliteValue.method z f #[v]=(do match ←ReflectliteValue.parts v with | none=>z | some (t,a,fl)=>f t a fl (fl % 32)):=rfl
theorem partsP (a:Addr) (w:World):(ReflectliteValue.parts (.agg #[.pointer (some ⟨10,145,none⟩),.pointer (some a),.int .u64 150])).run Tryz.prog w=.ok (some (145,a,150)) w:=by kernel_rfl
theorem isNilP (a p:Addr) (W:World) (ha:W.cell? a=some (.pointer (some p))) :
 (ReflectliteValue.method (ReflectliteValue.valueError "reflectlite.Value.IsNil" 0) ReflectliteValue.isNil #[.agg #[.pointer (some ⟨10,145,none⟩),.pointer (some a),.int .u64 150]]).run Tryz.prog W=.ok (.bool false) W:=by
 rw [rlm]
 simp only [Sem.run_bind,partsP,Result.andThen]
 simp [ReflectliteValue.isNil,loadVar,isAgg,underlying,Tryz.underlying145,ha,Result.andThen]

theorem methodElem (h:Value) (w:World):(Go.method 453 216 (.agg #[h]) "Elem").run Tryz.prog w=.ok (310,.agg #[h]) w:=by kernel_rfl
theorem methodImplements (h:Value) (w:World):(Go.method 453 216 (.agg #[h]) "Implements").run Tryz.prog w=.ok (311,.agg #[h]) w:=by kernel_rfl
theorem methodAssignableTo (h:Value) (w:World):(Go.method 453 216 (.agg #[h]) "AssignableTo").run Tryz.prog w=.ok (308,.agg #[h]) w:=by kernel_rfl
theorem elemP (w:World):(ReflectliteType.method ReflectliteType.elem #[.agg #[.pointer (some ⟨10,145,none⟩)]]).run Tryz.prog w=.ok (.iface 216 (.agg #[.pointer (some ⟨10,68,none⟩)])) w:=by kernel_rfl
theorem implementsE (w:World):(ReflectliteType.relation "Implements" ReflectliteType.implements_ #[.agg #[.pointer (some ⟨10,68,none⟩)],.iface 216 (.agg #[.pointer (some ⟨10,30,none⟩)])]).run Tryz.prog w=.ok (.bool true) w:=by kernel_rfl
theorem typeOfE (v:Value) (w:World):(ReflectliteType.typeOf #[.iface 68 v]).run Tryz.prog w=.ok (.iface 216 (.agg #[.pointer (some ⟨10,68,none⟩)])) w:=by kernel_rfl
theorem assignableE (w:World):(ReflectliteType.relation "AssignableTo" ReflectliteType.assignableTo #[.agg #[.pointer (some ⟨10,68,none⟩)],.iface 216 (.agg #[.pointer (some ⟨10,68,none⟩)])]).run Tryz.prog w=.ok (.bool true) w:=by kernel_rfl
theorem valueOfE (n:Int) (w:World):(ReflectliteValue.unpack (.iface 68 (.int .i64 n))).run Tryz.prog w
 = .ok (.agg #[.pointer (some ⟨10,68,none⟩),.pointer (some ⟨w.heap.size,0,none⟩),.int .u64 130]) (w.alloc (.cells #[.int .i64 n] 68)):=by kernel_rfl
theorem elemOfP (w:World):(Rtype.elem? 145).run Tryz.prog w=.ok (some 68) w:=by kernel_rfl
theorem mkE (p:Addr) (w:World):(ReflectliteValue.mk 68 p ReflectliteValue.flagAddr).run Tryz.prog w=.ok (.agg #[.pointer (some ⟨10,68,none⟩),.pointer (some p),.int .u64 386]) w:=by kernel_rfl
theorem elemVP (a p:Addr) (W:World) (ha:W.cell? a=some (.pointer (some p))) :
 (ReflectliteValue.method (ReflectliteValue.valueError "reflectlite.Value.Elem" 0) ReflectliteValue.elem #[.agg #[.pointer (some ⟨10,145,none⟩),.pointer (some a),.int .u64 150]]).run Tryz.prog W
   = .ok (.agg #[.pointer (some ⟨10,68,none⟩),.pointer (some p),.int .u64 386]) W:=by
 rw [rlm]
 simp only [Sem.run_bind,partsP,Result.andThen]
 simp [ReflectliteValue.elem,loadVar,isAgg,underlying,Tryz.underlying145,ha,Result.andThen,elemOfP,mkE]
theorem rls (v x:Value):ReflectliteValue.set #[v,x]=(do
 let (some (dst,a,fl),some (src,b,_)):=(←ReflectliteValue.parts v,←ReflectliteValue.parts x)
  | unsupported (.noEntry "extern/(internal/reflectlite.Value).Set.zeroValue")
 if fl / ReflectliteValue.flagAddr % 2 == 0 then unsupported (.noEntry "extern/(internal/reflectlite.Value).Set.unaddressable")
 let val ←loadVar src b
 if ←Rtype.directlyAssignable dst src then storeVar dst a val
 else if ←Rtype.implements dst src then
  if (←Rtype.kind src) == 20 then
   match val with
   | .nilIface=>unsupported (.noEntry "extern/reflectlite: a nil value of one interface type handed on as a value of another")
   | _=>storeVar dst a val
  else storeVar dst a (.iface src val)
 else panicString ("reflectlite.Set: value of type " ++ (←Rtype.spelt src) ++ " is not assignable to type " ++ (←Rtype.spelt dst))
 pure (.tuple #[])):=rfl
theorem partsEa (a:Addr) (w:World):(ReflectliteValue.parts (.agg #[.pointer (some ⟨10,68,none⟩),.pointer (some a),.int .u64 386])).run Tryz.prog w=.ok (some (68,a,386)) w:=by kernel_rfl
theorem partsE (a:Addr) (w:World):(ReflectliteValue.parts (.agg #[.pointer (some ⟨10,68,none⟩),.pointer (some a),.int .u64 130])).run Tryz.prog w=.ok (some (68,a,130)) w:=by kernel_rfl
theorem directE (w:World):(Rtype.directlyAssignable 68 68).run Tryz.prog w=.ok true w:=by kernel_rfl
theorem setE (ta b:Addr) (n:Int) (old:Value) (W:World) (hb:W.cell? b=some (.int .i64 n)) (ht:W.cell? ta=some old) (hf:W.frozen? ta=false) :
 (ReflectliteValue.set #[.agg #[.pointer (some ⟨10,68,none⟩),.pointer (some ta),.int .u64 386],.agg #[.pointer (some ⟨10,68,none⟩),.pointer (some b),.int .u64 130]]).run Tryz.prog W
   = .ok (.tuple #[]) (W.setCell ta (.int .i64 n)):=by
 rw [rls]
 simp only [Sem.run_bind,partsEa,partsE,Result.andThen]
 simp [ReflectliteValue.flagAddr,loadVar,isAgg,underlying,Tryz.underlying68,hb,Result.andThen,directE,storeVar,Value.cells,storeCells,Addr.add]
 rw [run_store Tryz.prog W ta _ _ (by rfl)]
 simp [ht,hf]

theorem typeOfA (v:Value) (w:World):(ReflectliteType.typeOf #[.iface 108 v]).run Tryz.prog w=.ok (.iface 216 (.agg #[.pointer (some ⟨10,108,none⟩)])) w:=by kernel_rfl
theorem assignableA (w:World):(ReflectliteType.relation "AssignableTo" ReflectliteType.assignableTo #[.agg #[.pointer (some ⟨10,108,none⟩)],.iface 216 (.agg #[.pointer (some ⟨10,68,none⟩)])]).run Tryz.prog w=.ok (.bool false) w:=by kernel_rfl
theorem noAs (v:Value) (xT:TypeId) (w:World):(Instr.typeAssert (.iface 108 v) xT 221 true).run Tryz.prog w=.ok (.tuple #[.nilIface,.bool false]) w :=
 run_typeAssert_lacksB Tryz.underlying221 (by kernel_rfl) (by kernel_rfl) v xT w
theorem isUnwrap (v:Value) (xT:TypeId) (w:World):(Instr.typeAssert (.iface 108 v) xT 224 true).run Tryz.prog w=.ok (.tuple #[.iface 108 v,.bool true]) w :=
 run_typeAssert_hasB Tryz.underlying224 (by kernel_rfl) v xT w
theorem methodUnwrap (h:Addr) (w:World):(Go.method 453 108 (.pointer (some h)) "Unwrap").run Tryz.prog w=.ok (303,.pointer (some h)) w:=by kernel_rfl

end Go.AsKit
end

section
open Go Go.Proofs

namespace Go.AsKit
open Go.RowKit Go.Extern.Stop Go.Stop Go.Extern

abbrev hdl (t:TypeId):Value:=.pointer (some ⟨10,t,none⟩)
abbrev asW (t:Addr) (w:World):World:=((w.alloc (.cells #[.pointer (some t)] 145)).alloc (.cells #[hdl 145,.pointer (some ⟨w.heap.size,0,none⟩),.int .u64 150] 152)).alloc (.cells #[hdl 145,.pointer (some ⟨w.heap.size,0,none⟩),.int .u64 150] 152)
abbrev asW2 (t:Addr) (n:Int) (w:World):World:=((asW t w).alloc (.cells #[.int .i64 n] 68)).setCell t (.int .i64 n)

theorem unwrap (n:Int) (e:Addr) (w:World) (he:w.cell? e=some (.int .i64 n)):Calls Tryz.prog 303 #[.pointer (some e)] w fun ev w'=>ev=.returned (.iface 68 (.int .i64 n))∧w'=w:=by
 go_enter Tryz.func303,Tryz.ntmps303
 go_wp2
 go_ret
 exact ⟨rfl,rfl⟩

set_option maxHeartbeats 4000000 in
theorem as_errno (n:Int) (t:Addr) (old:Value) (w:World) (hg:w.cell? ⟨0,0,none⟩ = some (.iface 216 (.agg #[hdl 30]))) (ht0:w.cell? t=some old) (hf0:w.frozen? t=false) :
 Calls Tryz.prog 52 #[.iface 68 (.int .i64 n),.iface 145 (.pointer (some t))] w fun ev w'=>ev=.returned (.bool true)∧w'=asW2 t n w:=by
 have h6:=@run_callFunc_extern Tryz.prog 104 _ (fun args=>ReflectliteValue.unpack (args.getD 0 (.tuple #[]))) Tryz.func104 (by kernel_rfl) (by kernel_rfl) (by kernel_rfl) (by kernel_rfl)
 have h7:=@run_callFunc_extern Tryz.prog 105 _ (ReflectliteValue.methodAny (ReflectliteValue.valueError "reflectlite.Value.Type" 0) (fun t _ _ _=>ReflectliteType.toType t)) Tryz.func105 (by kernel_rfl) (by kernel_rfl) (by kernel_rfl) (by kernel_rfl)
 have h8:=@run_callFunc_extern Tryz.prog 106 _ (ReflectliteValue.method (ReflectliteValue.valueError "reflectlite.Value.IsNil" 0) ReflectliteValue.isNil) Tryz.func106 (by kernel_rfl) (by kernel_rfl) (by kernel_rfl) (by kernel_rfl)
 have h27:=@run_callFunc_extern Tryz.prog 297 _ (ReflectliteType.abiMethod fun t=>do pure (.int .u8 (←Rtype.kind t))) Tryz.func297 (by kernel_rfl) (by kernel_rfl) (by kernel_rfl) (by kernel_rfl)
 have h37:=@run_callFunc_extern Tryz.prog 310 _ (ReflectliteType.method ReflectliteType.elem) Tryz.func310 (by kernel_rfl) (by kernel_rfl) (by kernel_rfl) (by kernel_rfl)
 have h38:=@run_callFunc_extern Tryz.prog 311 _ (ReflectliteType.relation "Implements" ReflectliteType.implements_) Tryz.func311 (by kernel_rfl) (by kernel_rfl) (by kernel_rfl) (by kernel_rfl)
 have h10:=@run_callFunc_extern Tryz.prog 161 _ ReflectliteType.typeOf Tryz.func161 (by kernel_rfl) (by kernel_rfl) (by kernel_rfl) (by kernel_rfl)
 have h35:=@run_callFunc_extern Tryz.prog 308 _ (ReflectliteType.relation "AssignableTo" ReflectliteType.assignableTo) Tryz.func308 (by kernel_rfl) (by kernel_rfl) (by kernel_rfl) (by kernel_rfl)
 have h11:=@run_callFunc_extern Tryz.prog 162 _ (ReflectliteValue.method (ReflectliteValue.valueError "reflectlite.Value.Elem" 0) ReflectliteValue.elem) Tryz.func162 (by kernel_rfl) (by kernel_rfl) (by kernel_rfl) (by kernel_rfl)
 have h12:=@run_callFunc_extern Tryz.prog 163 _ ReflectliteValue.set Tryz.func163 (by kernel_rfl) (by kernel_rfl) (by kernel_rfl) (by kernel_rfl)
 have tO:=typeOfE
 have mA:=methodAssignableTo
 have a25:=assignableE
 have v25:=valueOfE
 have f6:=valueOfP
 have f7:=typeP
 have mK:=methodKind
 have mE:=methodElem
 have mI:=methodImplements
 have k27:=kindP
 have k25:=kindE
 have e27:=elemP
 have i25:=implementsE
 have n8:=isNilP ⟨w.heap.size,0,none⟩ t ((w.alloc (.cells #[.pointer (some t)] 145)).alloc (.cells #[hdl 145,.pointer (some ⟨w.heap.size,0,none⟩),.int .u64 150] 152)) (by simp)
 have hlt:0<w.heap.size:=by
  rcases Nat.lt_or_ge 0 w.heap.size with h | h
  · exact h
  · simp [World.cell?,Array.getElem?_eq_none h] at hg
 have hg2:((w.alloc (.cells #[.pointer (some t)] 145)).alloc (.cells #[hdl 145,.pointer (some ⟨w.heap.size,0,none⟩),.int .u64 150] 152)).cell? ⟨0,0,none⟩ = some (.iface 216 (.agg #[hdl 30])):=by
  rw [World.cell?_alloc_lt _ _ ⟨0,0,none⟩ (by rw [World.size_alloc];exact Nat.lt_succ_of_lt hlt),World.cell?_alloc_lt _ _ ⟨0,0,none⟩ hlt];exact hg
 have htl:t.block<w.heap.size:=by
  rcases Nat.lt_or_ge t.block w.heap.size with h | h
  · exact h
  · simp [World.cell?,Array.getElem?_eq_none h] at ht0
 have el:=elemVP ⟨w.heap.size,0,none⟩ t (asW t w) (by rw [World.cell?_alloc_lt _ _ ⟨w.heap.size,0,none⟩ (by simp;omega)];simp)
 have st:=setE t ⟨w.heap.size+1+1+1,0,none⟩ n old ((asW t w).alloc (.cells #[.int .i64 n] 68))
  (by rw [World.cell?_alloc_at _ _ _ _ (by simp)];rfl)
  (by rw [World.cell?_alloc_lt _ _ t (by simp;omega),World.cell?_alloc_lt _ _ t (by simp;omega),World.cell?_alloc_lt _ _ t (by simp;omega),World.cell?_alloc_lt _ _ t htl];exact ht0)
  (by rw [World.frozen?_alloc_old _ _ t (by simp;omega),World.frozen?_alloc_old _ _ t (by simp;omega),World.frozen?_alloc_old _ _ t (by simp;omega),World.frozen?_alloc_old _ _ t (Nat.ne_of_lt htl)];exact hf0)
 go_enter Tryz.func52,Tryz.ntmps52
 go_wp2
 refine wp_loop_rounds 1 ?_
 rw [rounds_succ]
 go_wp2
 go_ret
 exact ⟨rfl,rfl⟩

set_option maxHeartbeats 4000000 in
theorem as_at (n:Int) (e t:Addr) (old:Value) (w:World) (he:w.cell? e=some (.int .i64 n)) (hg:w.cell? ⟨0,0,none⟩ = some (.iface 216 (.agg #[hdl 30]))) (ht0:w.cell? t=some old) (hf0:w.frozen? t=false) :
 Calls Tryz.prog 52 #[.iface 108 (.pointer (some e)),.iface 145 (.pointer (some t))] w fun ev w'=>ev=.returned (.bool true)∧w'=asW2 t n w:=by
 have h6:=@run_callFunc_extern Tryz.prog 104 _ (fun args=>ReflectliteValue.unpack (args.getD 0 (.tuple #[]))) Tryz.func104 (by kernel_rfl) (by kernel_rfl) (by kernel_rfl) (by kernel_rfl)
 have h7:=@run_callFunc_extern Tryz.prog 105 _ (ReflectliteValue.methodAny (ReflectliteValue.valueError "reflectlite.Value.Type" 0) (fun t _ _ _=>ReflectliteType.toType t)) Tryz.func105 (by kernel_rfl) (by kernel_rfl) (by kernel_rfl) (by kernel_rfl)
 have h8:=@run_callFunc_extern Tryz.prog 106 _ (ReflectliteValue.method (ReflectliteValue.valueError "reflectlite.Value.IsNil" 0) ReflectliteValue.isNil) Tryz.func106 (by kernel_rfl) (by kernel_rfl) (by kernel_rfl) (by kernel_rfl)
 have h27:=@run_callFunc_extern Tryz.prog 297 _ (ReflectliteType.abiMethod fun t=>do pure (.int .u8 (←Rtype.kind t))) Tryz.func297 (by kernel_rfl) (by kernel_rfl) (by kernel_rfl) (by kernel_rfl)
 have h37:=@run_callFunc_extern Tryz.prog 310 _ (ReflectliteType.method ReflectliteType.elem) Tryz.func310 (by kernel_rfl) (by kernel_rfl) (by kernel_rfl) (by kernel_rfl)
 have h38:=@run_callFunc_extern Tryz.prog 311 _ (ReflectliteType.relation "Implements" ReflectliteType.implements_) Tryz.func311 (by kernel_rfl) (by kernel_rfl) (by kernel_rfl) (by kernel_rfl)
 have h10:=@run_callFunc_extern Tryz.prog 161 _ ReflectliteType.typeOf Tryz.func161 (by kernel_rfl) (by kernel_rfl) (by kernel_rfl) (by kernel_rfl)
 have h35:=@run_callFunc_extern Tryz.prog 308 _ (ReflectliteType.relation "AssignableTo" ReflectliteType.assignableTo) Tryz.func308 (by kernel_rfl) (by kernel_rfl) (by kernel_rfl) (by kernel_rfl)
 have h11:=@run_callFunc_extern Tryz.prog 162 _ (ReflectliteValue.method (ReflectliteValue.valueError "reflectlite.Value.Elem" 0) ReflectliteValue.elem) Tryz.func162 (by kernel_rfl) (by kernel_rfl) (by kernel_rfl) (by kernel_rfl)
 have h12:=@run_callFunc_extern Tryz.prog 163 _ ReflectliteValue.set Tryz.func163 (by kernel_rfl) (by kernel_rfl) (by kernel_rfl) (by kernel_rfl)
 have tO:=typeOfE
 have tA:=typeOfA
 have aA:=assignableA
 have nA:=noAs
 have iU:=isUnwrap
 have mU:=methodUnwrap
 have mA:=methodAssignableTo
 have a25:=assignableE
 have v25:=valueOfE
 have f6:=valueOfP
 have f7:=typeP
 have mK:=methodKind
 have mE:=methodElem
 have mI:=methodImplements
 have k27:=kindP
 have k25:=kindE
 have e27:=elemP
 have i25:=implementsE
 have n8:=isNilP ⟨w.heap.size,0,none⟩ t ((w.alloc (.cells #[.pointer (some t)] 145)).alloc (.cells #[hdl 145,.pointer (some ⟨w.heap.size,0,none⟩),.int .u64 150] 152)) (by simp)
 have hlt:0<w.heap.size:=by
  rcases Nat.lt_or_ge 0 w.heap.size with h | h
  · exact h
  · simp [World.cell?,Array.getElem?_eq_none h] at hg
 have hg2:((w.alloc (.cells #[.pointer (some t)] 145)).alloc (.cells #[hdl 145,.pointer (some ⟨w.heap.size,0,none⟩),.int .u64 150] 152)).cell? ⟨0,0,none⟩ = some (.iface 216 (.agg #[hdl 30])):=by
  rw [World.cell?_alloc_lt _ _ ⟨0,0,none⟩ (by rw [World.size_alloc];exact Nat.lt_succ_of_lt hlt),World.cell?_alloc_lt _ _ ⟨0,0,none⟩ hlt];exact hg
 have htl:t.block<w.heap.size:=by
  rcases Nat.lt_or_ge t.block w.heap.size with h | h
  · exact h
  · simp [World.cell?,Array.getElem?_eq_none h] at ht0
 have el:=elemVP ⟨w.heap.size,0,none⟩ t (asW t w) (by rw [World.cell?_alloc_lt _ _ ⟨w.heap.size,0,none⟩ (by simp;omega)];simp)
 have st:=setE t ⟨w.heap.size+1+1+1,0,none⟩ n old ((asW t w).alloc (.cells #[.int .i64 n] 68))
  (by rw [World.cell?_alloc_at _ _ _ _ (by simp)];rfl)
  (by rw [World.cell?_alloc_lt _ _ t (by simp;omega),World.cell?_alloc_lt _ _ t (by simp;omega),World.cell?_alloc_lt _ _ t (by simp;omega),World.cell?_alloc_lt _ _ t htl];exact ht0)
  (by rw [World.frozen?_alloc_old _ _ t (by simp;omega),World.frozen?_alloc_old _ _ t (by simp;omega),World.frozen?_alloc_old _ _ t (by simp;omega),World.frozen?_alloc_old _ _ t (Nat.ne_of_lt htl)];exact hf0)
 have hel:e.block<w.heap.size:=by
  rcases Nat.lt_or_ge e.block w.heap.size with h | h
  · exact h
  · simp [World.cell?,Array.getElem?_eq_none h] at he
 have heA:(asW t w).cell? e=some (.int .i64 n):=by
  rw [World.cell?_alloc_lt _ _ e (by simp;omega),World.cell?_alloc_lt _ _ e (by simp;omega),World.cell?_alloc_lt _ _ e hel];exact he
 go_enter Tryz.func52,Tryz.ntmps52
 go_wp2
 refine wp_loop_rounds 2 ?_
 rw [rounds_succ]
 go_wp2_with (go_at_call 303;refine (unwrap n e _ heA).mono ?_;rintro e' w' ⟨rfl,rfl⟩)
 rw [rounds_succ]
 go_wp2
 go_ret
 exact ⟨rfl,rfl⟩

end Go.AsKit
end
