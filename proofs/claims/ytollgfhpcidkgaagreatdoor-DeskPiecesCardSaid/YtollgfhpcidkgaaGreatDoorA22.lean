/- Texts that belong together; the first of them:  -/
import Derived.Test.YtollgfhpcidkgaaGreatDoorA21
import Derived.Test.YtollgfhpcidkgaaGreatDoorA4
import Derived.Shelf.LaysM
import Derived.Shelf.Strconv.Itoa1
import Derived.Shelf.Strconv.Itoa2
import Derived.Lib.Walk
import Derived.Lib.ItoaMem
import Derived.Lib.AppendIntMem
import Derived.WalkKit
import Derived.BigCall
import Derived.BigGuard
import Derived.Test.YtollgfhpcidkgaaGreatDoorA3
import Derived.ProofKit
import Derived.OpenShut
import Derived.Below
import Derived.ChangeSame
import Derived.WideKeyArgs
import Derived.Lib.SmallJoins
import Derived.Test.YtollgfhpcidkgaaGreatDoorA12
import Derived.Test.YtollgfhpcidkgaaGreatDoorA9

section
open Go Go.Proofs Go.Mac
set_option maxRecDepth 100000
namespace Go.Mac
section
def stateD (d:DZ):AnsZ :=
 (d,if d.ph=true then
   if pkRightB (gPh (d.m.ws.headD 0)) (gPa (d.m.ws.headD 0)) (gWa (d.m.ws.headD 0))=true then .ok (yesZ (gO (d.m.ws.headD 0))++numsZ [gPh (d.m.ws.headD 0),gPa (d.m.ws.headD 0),gWa (d.m.ws.headD 0)])
   else .error (.no 3)
 else .error (.no 6))

section

variable {K:KP} {J:KJ}

theorem asksX {d:DZ} {v:VZ} {ws:List (List UInt8)} (h1:d.ph=true→K undefA [] (saidH d v ws)) (h0:d.ph=false→J (wrongE 6) [] (saidH d v ws)):DoesX Tryz.prog 131 [cv (.ptr 5 0)] (saidH d v ws) K J:=by
 refine doesX Tryz.func131 rfl (by decide) ?_
 refine bZ (fun h=>?_) (fun h=>?_)
 · have h:d.ph=false:=by simpa using h
   exact ⟨_,rfl,h0 h⟩
 · have h:d.ph=true:=by simpa using h
   exact h1 h

theorem mustPhase {o:Bool} {ph pa wa:Int} (h:K (pkPhase o ph pa wa) [] []):DoesX Tryz.prog 141 [pkPhase o ph pa wa,cv .niliface] [] K J:=by
 refine doesX Tryz.func141 rfl (by decide) ?_
 exact h

theorem mustPhase_bad {o:Bool} {ph pa wa e:Int} (h:J (wrongE e) [] []):DoesX Tryz.prog 141 [pkPhase o ph pa wa,cv (eno e)] [] K J:=by
 refine doesX Tryz.func141 rfl (by decide) ?_
 exact ⟨_,rfl,h⟩

theorem saidState (d:DZ) (w:List UInt8) (hph:d.ph=true→d.m.ws≠[]):SaidX 71 d [w] (stateD d):=by
 intro K J v hv hw hK hJ
 refine DoesX.keepB 17 moL rfl ?_
 refine doesX Tryz.func71 rfl (by decide) ?_
 change DoesX Tryz.prog 131 _ _ _ _
 refine asksX (fun hp=>?_) fun hp=>?_
 · obtain ⟨u,us,hus⟩ : ∃ u us,d.m.ws=u::us:=by
    cases h:d.m.ws with
    | nil=>exact absurd h (hph hp)
    | cons u us=>exact ⟨u,us,rfl⟩
   have hu:=hw.ws.2 u (by rw [hus];simp)
   have hhd:d.m.ws.headD 0=u:=by rw [hus];rfl
   change DoesX Tryz.prog 114 _ _ _ _
   refine DoesX.on 17 [6,7,8,9,10,11,12,13,14] _ _ (DoesX.of (coreCellsL (m:=d.m) (v:=v) hw (l:=u::us) hus ?_))
   refine at2 (by decide) (by simp) (rd1 (rowU u) (.int .u64 u) rfl rfl ?_)
   change DoesX Tryz.prog 142 _ _ _ _
   refine DoesX.alone 18 (DoesX.of (gOfIs u hu (fun hb=>?_) fun hb=>?_))
   · have hr:stateD d=(d,.error (.no 3)):=by rw [stateD,if_pos hp,hhd,if_neg (by rw [hb];decide)]
     rw [hr] at hJ
     change DoesX Tryz.prog 141 _ _ _ _
     refine DoesX.alone 18 (mustPhase_bad ?_)
     refine ⟨_,rfl,?_⟩
     refine ⟨17,[0,1,2,3,4,5,6,7,8,9,10,11,12,13,14,15,16],_,_,rfl,by decide,by decide,by decide,by decide,by decide,rfl,rfl,rfl,rfl,rfl,_,rfl,hJ _ v rfl hv hw⟩
   · have hr:stateD d=(d,.ok (yesZ (gO u)++numsZ [gPh u,gPa u,gWa u])):=by rw [stateD,if_pos hp,hhd,if_pos hb]
     rw [hr] at hK
     change DoesX Tryz.prog 141 _ _ _ _
     refine DoesX.alone 18 (mustPhase ?_)
     refine SX.drawR follows (by decide) ?_
     have hb3:∀ x∈[gPh u,gPa u,gWa u],-9223372036854775808≤x∧x≤9223372036854775807:=by
      intro x hx
      simp at hx
      have e1:gPh u=u / 4294967296 % 2147483648:=rfl
      have e2:gPa u=u / 65536 % 65536:=rfl
      have e3:gWa u=u % 65536:=rfl
      omega
     refine And.intro ?_ ?_
     · change DoesX Tryz.prog 119 _ _ _ _
       refine DoesX.alone 19 (DoesX.of (yes (gO u) ?_))
       repeat' (first | refine And.intro rfl ?_ | refine And.intro (And.intro (by decide) (And.intro (by simp) rfl)) ?_ | refine And.intro (Exists.intro _ (Exists.intro _ (And.intro rfl (And.intro rfl rfl)))) ?_ | fail)
       change DoesX Tryz.prog 110 _ _ _ _
       refine DoesX.on 20 [1,19] _ _ (DoesX.of (nums (n:=3) (l:=[gPh u,gPa u,gWa u]) rfl (by decide) hb3 ?_))
       repeat' (first | refine And.intro rfl ?_ | refine And.intro (And.intro (by decide) (And.intro (by simp) rfl)) ?_ | refine And.intro (Exists.intro _ (Exists.intro _ (And.intro rfl (And.intro rfl rfl)))) ?_ | fail)
       refine And.intro (by exact Nat.le_trans (Nat.add_le_add (yesZ_len _) (numsZ_len _ hb3)) (show 6+21*3≤9223372036854775807 by decide)) ?_
       refine ⟨17,[0,1,2,3,4,5,6,7,8,9,10,11,12,13,14,15,16],_,_,rfl,by decide,by decide,by decide,by decide,by decide,rfl,rfl,rfl,rfl,rfl,hK _ v rfl hv hw⟩
     · repeat' (first | refine And.intro rfl ?_ | refine And.intro (And.intro (by decide) (And.intro (by simp) rfl)) ?_ | refine And.intro (Exists.intro _ (Exists.intro _ (And.intro rfl (And.intro rfl rfl)))) ?_ | fail)
       change DoesX Tryz.prog 119 _ _ _ _
       refine DoesX.alone 20 (DoesX.of (yes (gO u) ?_))
       repeat' (first | refine And.intro rfl ?_ | refine And.intro (And.intro (by decide) (And.intro (by simp) rfl)) ?_ | refine And.intro (Exists.intro _ (Exists.intro _ (And.intro rfl (And.intro rfl rfl)))) ?_ | fail)
       change DoesX Tryz.prog 110 _ _ _ _
       refine DoesX.on 20 [1,19] _ _ (DoesX.of (nums (n:=3) (l:=[gPh u,gPa u,gWa u]) rfl (by decide) hb3 ?_))
       repeat' (first | refine And.intro rfl ?_ | refine And.intro (And.intro (by decide) (And.intro (by simp) rfl)) ?_ | refine And.intro (Exists.intro _ (Exists.intro _ (And.intro rfl (And.intro rfl rfl)))) ?_ | fail)
       refine And.intro (by exact Nat.le_trans (Nat.add_le_add (yesZ_len _) (numsZ_len _ hb3)) (show 6+21*3≤9223372036854775807 by decide)) ?_
       refine ⟨17,[0,1,2,3,4,5,6,7,8,9,10,11,12,13,14,15,16],_,_,rfl,by decide,by decide,by decide,by decide,by decide,rfl,rfl,rfl,rfl,rfl,hK _ v rfl hv hw⟩
 · have hr:stateD d=(d,.error (.no 6)):=by rw [stateD,if_neg (by rw [hp];decide)]
   rw [hr] at hJ
   refine ⟨_,rfl,?_⟩
   refine ⟨17,[0,1,2,3,4,5,6,7,8,9,10,11,12,13,14,15,16],_,_,rfl,by decide,by decide,by decide,by decide,by decide,rfl,rfl,rfl,rfl,rfl,_,rfl,hJ _ v rfl hv hw⟩

end
end
end Go.Mac
end
section
open Go Go.Proofs Go.Mac Go.Shelf Go.RowKit Go.Sort Go.Lib

namespace Go.Mac.FmtKit

set_option maxHeartbeats 6400000 in
set_option maxRecDepth 100000 in
theorem formatUint (u:Nat) (hu64:u<18446744073709551616) (w:World) (htab:Lib.TabIs Tryz.prog w "internal/strconv.uint64pow10" .u64 Lib.pow10Tab) :
  Calls Tryz.prog 170 #[.int .u64 u,.int .i64 10] w fun e w'=>e=.returned (.string ⟨(Lib.decDigits u).toArray⟩)∧∃ k os,w'=grow (w.drewN k) os:=by
 have L:=Tryz.laysM171
 by_cases hs:u<100
 · have e283:∀ args w,(callFunc 201 args).run Tryz.prog w=.ok (.enter 201 args) w:=enters_of Tryz.func201 (by kernel_rfl) rfl
   go_enter Tryz.func170,Tryz.ntmps170
   go_wp2_with (go_at_fn 201;refine (Any.internal_strconv_small { L with } u hs _).mono ?_;rintro e w' ⟨rfl,rfl⟩)
   go_ret
   exact ⟨rfl,0,#[],by simp [World.drewN_zero]⟩
 · have hu1:1≤u:=by omega
   have hnd20:Lib.nDigits u≤20:=by have:=Lib.numDigits_eq u hu1 hu64;split at this <;> omega
   have hb3:Lib.nDigits u≤24:=by omega
   have e284:∀ args w,(callFunc 202 args).run Tryz.prog w=.ok (.enter 202 args) w:=enters_of Tryz.func202 (by kernel_rfl) rfl
   have e285:∀ args w,(callFunc 203 args).run Tryz.prog w=.ok (.enter 203 args) w:=enters_of Tryz.func203 (by kernel_rfl) rfl
   have hal:Tryz.prog.arrayLen 262=24:=by simp [Program.arrayLen,Tryz.underlying262]
   have hsl1:∀ W,(Instr.sliceAt 262 (.pointer (some ⟨w.heap.size,0,none⟩)) none (some (.int .i64 (Lib.nDigits u:Int))) none).run Tryz.prog W=.ok (.slice (some ⟨w.heap.size,0,none⟩) (Lib.nDigits u) 24) W:=fun W=>by
    rw [run_sliceAt_array_h W 262 ⟨w.heap.size,0,none⟩ (by simp [Program.arrayLen,Program.elem,Tryz.underlying262]) .i64 (Lib.nDigits u:Int) (by omega) (by rw [hal];omega)]
    go_simp
    try omega
   have hH0:=Lib.holds_zero0 w 262 (Lib.nDigits u) (by omega)
   have hfmt:=Any.internal_strconv_formatBase10 (ρ:=Tryz.laysM171_ren) { L with } w.heap.size 0 24 u (Array.replicate (Lib.nDigits u) 0) (w.alloc (.cells Lib.zeros24 262)) hH0 (by rw [Array.size_replicate];exact Lib.lt_pow_nDigits u) hu64 (by rw [Array.size_replicate];omega)
   rw [Array.size_replicate] at hfmt
   have HH0:=Lib.hid hH0
   have iu:¬(u:Int)<100:=by omega
   clear hH0 hal
   go_enter Tryz.func170,Tryz.ntmps170
   go_wp2_with (go_at_fn 202;refine (Any.internal_strconv_numDigits (ρ:=Tryz.laysM171_ren) { L with } u hu1 hu64 _ (Lib.tabIs_alloc htab _)).mono ?_;rintro e w' ⟨rfl,rfl⟩)
   go_at_fn 203
   refine hfmt.mono ?_
   rintro e w' ⟨rfl,k,v',dk,rfl,hF⟩
   have hcv:(convert 39 9 (.slice (some ⟨w.heap.size,0,none⟩) (Lib.nDigits u) 24)).run Tryz.prog ((putRow (fun (b:UInt8)=>Value.int .u8 (b.toNat:Int)) (w.alloc (.cells Lib.zeros24 262)) w.heap.size 0 dk).drewN k)=.ok (.string ⟨(Lib.decDigits u).toArray⟩) ((putRow (fun (b:UInt8)=>Value.int .u8 (b.toNat:Int)) (w.alloc (.cells Lib.zeros24 262)) w.heap.size 0 dk).drewN k):=by
    have h:=run_convert_bytes_back (P:=Tryz.prog) ((putRow (fun (b:UInt8)=>Value.int .u8 (b.toNat:Int)) (w.alloc (.cells Lib.zeros24 262)) w.heap.size 0 dk).drewN k) 39 9 5 ⟨w.heap.size,0,none⟩ 24 (Lib.decDigits u) Tryz.underlying39 Tryz.underlying5 Tryz.underlying9 (fun j hj=>by
     rw [Lib.row_is_numeral hF j hj,Lib.add_plain,World.cell?_drewN]
     exact cell?_putRow (fun (b:UInt8)=>Value.int .u8 (b.toNat:Int)) _ w.heap.size 0 _ dk HH0.out (by rw [hF.size,Array.size_replicate]) j (by rw [hF.size];rw [Lib.decDigits_length] at hj;exact hj))
    rw [Lib.decDigits_length] at h
    exact h
   go_wp2
   go_ret
   obtain ⟨os,eo⟩:=Lib.fin_at w (.cells Lib.zeros24 262) dk k 0
   exact ⟨rfl,k,os,eo⟩

set_option maxRecDepth 100000 in
theorem format (u:Nat) (hu64:u<18446744073709551616) (w:World) (htab:Lib.TabIs Tryz.prog w "internal/strconv.uint64pow10" .u64 Lib.pow10Tab) :
  Calls Tryz.prog 115 #[.int .u64 u,.int .i64 10] w fun e w'=>e=.returned (.string ⟨(Lib.decDigits u).toArray⟩)∧∃ k os,w'=grow (w.drewN k) os:=by
 go_enter Tryz.func115,Tryz.ntmps115
 go_wp2_with (go_at_call 170;refine (formatUint u hu64 _ htab).mono ?_;rintro e w' ⟨rfl,k,os,rfl⟩)
 go_ret
 exact ⟨rfl,k,os,rfl⟩

end Go.Mac.FmtKit

set_option maxRecDepth 100000

namespace Go.Mac

section

variable {K:KP}

theorem fmtUint (u:Nat) (hu:u<18446744073709551616) (h:K (st (Lib.decDigits u)) [] [powH]):Does Tryz.prog 115 [fcv (.int .u64 u),i64 10] [powH] K:=by
 refine ⟨⟨_,Tryz.func115,by decide,rfl⟩,fun B R w0 L w vs hrel hvs=>?_⟩
 obtain ⟨_,_,rfl,rfl,_,_,rfl,rfl,rfl⟩:=hvs
 obtain ⟨t,fr,hg⟩:=hrel.obj 0 _ rfl
 have htab:Lib.TabIs Tryz.prog w "internal/strconv.uint64pow10" .u64 Lib.pow10Tab:=by
  unfold Lib.TabIs World.var?
  rw [pow_named]
  show (match w.heap[_]? with | some (Obj.cells cs _ _)=>some cs | _=>none)=_
  rw [hg,List.map_map]
  rfl
 refine (FmtKit.format u hu w htab).mono ?_
 rintro e w' ⟨rfl,k,os,rfl⟩
 exact ⟨_,rfl,L,st (Lib.decDigits u),[],[powH],Agree.refl _ _ _,Nat.le_refl 1,rfl,hrel.grow8 (drewN_grown _ _ _),h⟩

end

end Go.Mac
end

section
open Go Go.Proofs Go.Mac
set_option maxRecDepth 100000
namespace Go.Mac
section
theorem cellZ_bounds {m:MZ} (hw:WF m) (t:Int) : -1≤cellZ m t∧cellZ m t≤300:=by
 unfold cellZ
 cases h:m.ss.find? fun s=>s.t == t with
 | none=>exact ⟨Int.le_refl _,by decide⟩
 | some s =>
   have:=hw.ss.2 s (List.mem_of_find?_eq_some h)
   have h1:=hw.nc
   have h2:=hw.ws.1
   show -1≤s.c∧s.c≤300
   omega

theorem pc_bound {m:MZ} (hw:WF m) (t:Nat):(thZ m t).pc≤600:=by
 unfold thZ
 rw [List.getD_eq_getElem?_getD]
 cases h:m.ts[t]? with
 | none=>decide
 | some x =>
   have hl:=(List.getElem?_eq_some_iff.1 h).1
   obtain ⟨p,hp⟩ : ∃ p,m.ps[t]? = some p:=⟨_,List.getElem?_eq_getElem (by rw [hw.ps];exact hl)⟩
   have h1:=(hw.pc t x p h hp).1
   have h2:=hw.right p (List.mem_of_getElem? hp)
   simp only [rightZ,Bool.and_eq_true,decide_eq_true_eq] at h2
   show x.pc≤600
   omega

def atD (d:DZ) (t:List UInt8):AnsZ :=
 (d,match tokV t with
   | none=>.error (.no 3)
   | some n=>if 0≤n∧n<d.m.ts.length then (if (thZ d.m n.toNat).dn=true then .error (.no 6) else .ok (numsZ [((thZ d.m n.toNat).pc:Int),cellZ d.m n])) else .error (.no 2))

def cellsT (l:List Int):List UInt8:=(l.map fun x=>32::Lib.decDigits x.toNat).flatten

theorem dec_len {u:Nat} (hu:u<18446744073709551616):(Lib.decDigits u).length≤20:=by
 rw [Lib.decDigits_length]
 rcases Nat.eq_zero_or_pos u with rfl | h
 · rw [Lib.nDigits_small (by decide)]
   decide
 · have:=Lib.numDigits_eq u h hu
   split at this <;> omega

theorem cellsT_len (l:List Int) (hr:∀ x∈l,0≤x∧x<18446744073709551616):(cellsT l).length≤21*l.length:=by
 induction l with
 | nil=>simp [cellsT]
 | cons x l ih =>
   have h1:=ih fun y hy=>hr y (by simp [hy])
   have h2:=hr x (by simp)
   have h3:=dec_len (u:=x.toNat) (by omega)
   rw [cellsT] at h1 ⊢
   simp
   simp at h1
   omega

def cellsD (d:DZ):AnsZ:=(d,.ok (cellsT d.m.ws))

section

variable {K:KP} {J:KJ}

theorem saidAt (d:DZ) (w t:List UInt8) (ht:t.length≤1000000000):SaidX 55 d [w,t] (atD d t):=by
 intro K J v hv hw hK hJ
 refine DoesX.moved moL ?_
 refine doesX Tryz.func55 rfl (by decide) ?_
 refine SX.drawR follows (by decide) ?_
 refine at2 (by decide) (by simp) (rd1 (rowStr t) (.str t) rfl rfl ?_)
 change DoesX Tryz.prog 109 _ _ _ _
 refine DoesX.on 17 [1,2,3] _ _ (number ht (fun n hn=>?_) fun hn=>?_)
 · repeat' (first | refine And.intro rfl ?_ | refine And.intro (And.intro (by decide) (And.intro (by simp) rfl)) ?_ | refine And.intro (Exists.intro _ (Exists.intro _ (And.intro rfl (And.intro rfl rfl)))) ?_ | fail)
   change DoesX Tryz.prog 108 _ _ _ _
   refine DoesX.on 17 [6,7,8,9,10,11,12,13,14] _ _ (DoesX.of (coreAt (m:=d.m) (v:=v) hw n (fun hb=>?_) (fun hb hd=>?_) fun hb hd=>?_))
   · have hr:atD d t=(d,.error (.no 2)):=by rw [atD,hn];dsimp only;rw [if_neg hb]
     rw [hr] at hJ
     repeat' (first | refine And.intro rfl ?_ | refine And.intro (And.intro (by decide) (And.intro (by simp) rfl)) ?_ | refine And.intro (Exists.intro _ (Exists.intro _ (And.intro rfl (And.intro rfl rfl)))) ?_ | fail)
     change DoesX Tryz.prog 111 _ _ _ _
     refine DoesX.alone 17 (mustInt_bad ?_)
     exact ⟨_,rfl,And.intro (by decide) (hJ _ v rfl hv hw)⟩
   · have hr:atD d t=(d,.error (.no 6)):=by rw [atD,hn];dsimp only;rw [if_pos hb,if_pos hd]
     rw [hr] at hJ
     repeat' (first | refine And.intro rfl ?_ | refine And.intro (And.intro (by decide) (And.intro (by simp) rfl)) ?_ | refine And.intro (Exists.intro _ (Exists.intro _ (And.intro rfl (And.intro rfl rfl)))) ?_ | fail)
     change DoesX Tryz.prog 111 _ _ _ _
     refine DoesX.alone 17 (mustInt_bad ?_)
     exact ⟨_,rfl,And.intro (by decide) (hJ _ v rfl hv hw)⟩
   · have hr:atD d t=(d,.ok (numsZ [((thZ d.m n.toNat).pc:Int),cellZ d.m n])):=by rw [atD,hn];dsimp only;rw [if_pos hb,if_neg (by rw [hd];decide)]
     rw [hr] at hK
     have h1:=cellZ_bounds hw n
     have h2:=pc_bound hw n.toNat
     repeat' (first | refine And.intro rfl ?_ | refine And.intro (And.intro (by decide) (And.intro (by simp) rfl)) ?_ | refine And.intro (Exists.intro _ (Exists.intro _ (And.intro rfl (And.intro rfl rfl)))) ?_ | fail)
     change DoesX Tryz.prog 111 _ _ _ _
     refine DoesX.alone 17 (mustInt ?_)
     change DoesX Tryz.prog 110 _ _ _ _
     refine DoesX.on 18 [1,17] _ _ (DoesX.of (nums (n:=2) (l:=[((thZ d.m n.toNat).pc:Int),cellZ d.m n]) rfl (by decide) (by simp;omega) ?_))
     exact And.intro (by decide) (hK _ v rfl hv hw)
 · have hr:atD d t=(d,.error (.no 3)):=by rw [atD,hn]
   rw [hr] at hJ
   exact ⟨_,rfl,And.intro (by decide) (hJ _ v rfl hv hw)⟩

theorem saidCells (d:DZ) (w:List UInt8):SaidX 57 d [w] (cellsD d):=by
 intro K J v hv hw hK _
 refine DoesX.keepB 17 moL rfl ?_
 refine doesX Tryz.func57 rfl (by decide) ?_
 change DoesX Tryz.prog 114 _ _ _ _
 refine DoesX.on 17 [6,7,8,9,10,11,12,13,14] _ _ (DoesX.of (coreCellsL (m:=d.m) (v:=v) hw (l:=d.m.ws) rfl ?_))
 have hl:=hw.ws
 refine SX.loop (fun i:Nat=>i≤d.m.ws.length) (fun i=>[(5,st (cellsT (d.m.ws.take i))),(12,cv (.slc 17 0 d.m.ws.length none false)),(13,i64 d.m.ws.length),(14,i64 i)]) (fun _=>saidH d v [w]++[.rows false 1 (d.m.ws.map rowU)]) (fun i=>d.m.ws.length-i) []
  (At.mk' [5,12,13,14] 0 (by simp) ⟨rfl,rfl⟩ rfl rfl (by simp) (by simp) (by simp)) ?_
 intro i hi
 change i≤d.m.ws.length at hi
 refine S_rX ?_
 refine bZ (fun hlt=>?_) (fun hlt=>?_)
 · have hlt:i<d.m.ws.length:=by
    have:=oTr hlt
    have:(i:Int)<(d.m.ws.length:Int):=this
    omega
   obtain ⟨x,hx⟩ : ∃ x,d.m.ws[i]? = some x:=⟨_,List.getElem?_eq_getElem hlt⟩
   have hxr:=hl.2 x (List.mem_of_getElem? hx)
   obtain ⟨u,rfl⟩:=Int.eq_ofNat_of_zero_le hxr.1
   have hul:=dec_len (u:=u) (by omega)
   have hcl:=cellsT_len (d.m.ws.take i) fun y hy=>hl.2 y (List.mem_of_mem_take hy)
   have hle:(d.m.ws.take i).length≤i:=by simp;omega
   refine at2 (a:=(0:Int)≤(i:Int)) (b:=(i:Int)<(d.m.ws.length:Int)) (by omega) (by omega) (rd1 (rowU u) (.int .u64 u) (by simp [hx]) rfl ?_)
   change DoesX Tryz.prog 115 _ _ _ _
   refine DoesX.on 18 [1] _ _ (DoesX.of (fmtUint u (by omega) ?_))
   refine And.intro (Nat.le_trans (Nat.add_le_add_left hul 1) (by decide)) (And.intro (by simp only [List.length_append,List.length_singleton];omega) ?_)
   refine At.mk' [5,12,13,14] (i+1) ⟨hlt,by omega⟩ ⟨?_,rfl⟩ rfl rfl (by simp) (by simp) (by decide)
   rw [wrap_i64 (i+1) (by omega) (by omega)]
   have:cellsT (d.m.ws.take (i+1))=cellsT (d.m.ws.take i)++([32]++Lib.decDigits u):=by
    rw [List.take_add_one,hx,cellsT,cellsT]
    simp
   rw [this]
   rfl
 · have hlt:¬(i:Int)<(d.m.ws.length:Int):=oFa hlt
   obtain rfl:i=d.m.ws.length:=by omega
   rw [List.take_length]
   refine ⟨17,[0,1,2,3,4,5,6,7,8,9,10,11,12,13,14,15,16],_,_,rfl,by decide,by decide,by decide,by decide,by decide,rfl,rfl,rfl,rfl,rfl,hK _ v rfl hv hw⟩

end
end
section
abbrev B64 (x:Int):Prop:=-9223372036854775808≤x∧x≤9223372036854775807

def threeT (a b c:Int):List UInt8:=[32]++Lib.itoa a++[58]++Lib.itoa b++[58]++Lib.itoa c

theorem three_len {a b c:Int} (ha:B64 a) (hb:B64 b) (hc:B64 c):(threeT a b c).length≤63:=by
 have h1:=itoa_len ha.1 ha.2
 have h2:=itoa_len hb.1 hb.2
 have h3:=itoa_len hc.1 hc.2
 simp only [threeT,List.length_append,List.length_singleton]
 omega

def eventsT (l:List EvZ):List UInt8:=(l.map fun e=>threeT e.a e.t e.v).flatten

theorem eventsT_len (l:List EvZ) (hr:∀ e∈l,B64 e.a∧B64 e.t∧B64 e.v):(eventsT l).length≤63*l.length:=by
 induction l with
 | nil=>simp [eventsT]
 | cons x l ih =>
   have h1:=ih fun y hy=>hr y (by simp [hy])
   have h2:=hr x (by simp)
   have h3:=three_len h2.1 h2.2.1 h2.2.2
   rw [eventsT] at h1 ⊢
   rw [List.map_cons,List.flatten_cons,List.length_append,List.length_cons]
   omega

def eventsD (d:DZ):AnsZ:=(d,.ok (eventsT d.m.el))

section

variable {K:KP} {J:KJ}

theorem saidEvents (d:DZ) (w:List UInt8) (he:∀ e∈d.m.el,B64 e.a∧B64 e.t∧B64 e.v):SaidX 58 d [w] (eventsD d):=by
 intro K J v hv hw hK _
 refine DoesX.keepB 17 moL rfl ?_
 refine doesX Tryz.func58 rfl (by decide) ?_
 have hel:=hw.el
 have hk:=hw.k
 change DoesX Tryz.prog 116 _ _ _ _
 refine DoesX.on 17 [6,7,8,9,10,11,12,13,14] _ _ (DoesX.of (coreEvents (m:=d.m) (v:=v) (by omega) ?_))
 refine SX.loop (fun i:Nat=>i≤d.m.el.length) (fun i=>[(5,st (eventsT (d.m.el.take i))),(12,cv (.slc 17 0 d.m.el.length none false)),(13,i64 d.m.el.length),(14,i64 i)]) (fun _=>saidH d v [w]++[.rows false 4 (d.m.el.map rowEv)]) (fun i=>d.m.el.length-i) []
  (At.mk' [5,12,13,14] 0 (by simp) ⟨rfl,rfl⟩ rfl rfl (by simp) (by simp) (by simp)) ?_
 intro i hi
 change i≤d.m.el.length at hi
 refine S_rX ?_
 refine bZ (fun hlt=>?_) (fun hlt=>?_)
 · have hlt:i<d.m.el.length:=by
    have:=oTr hlt
    have:(i:Int)<(d.m.el.length:Int):=this
    omega
   obtain ⟨x,hx⟩ : ∃ x,d.m.el[i]? = some x:=⟨_,List.getElem?_eq_getElem hlt⟩
   obtain ⟨ha,ht,hvv⟩:=he x (List.mem_of_getElem? hx)
   have hcl:=eventsT_len (d.m.el.take i) fun y hy=>he y (List.mem_of_mem_take hy)
   have hle:(d.m.el.take i).length≤i:=by simp;omega
   have h1:=itoa_len ha.1 ha.2
   have h2:=itoa_len ht.1 ht.2
   have h3:=itoa_len hvv.1 hvv.2
   refine at2 (a:=(0:Int)≤(i:Int)) (b:=(i:Int)<(d.m.el.length:Int)) (by omega) (by omega) (rdA (rowEv x) (by simp [hx]) ?_)
   refine SX.drawR follows (by decide) ?_
   change DoesX Tryz.prog 51 _ _ _ _
   refine DoesX.on 19 [1] _ _ (DoesX.of (strItoa x.a ha.1 ha.2 ?_))
   repeat' (first | refine And.intro rfl ?_ | refine And.intro (And.intro (by simp only [List.length_append,List.length_singleton];omega) rfl) ?_ | refine And.intro (by simp only [List.length_append,List.length_singleton];omega) ?_ | refine And.intro (Exists.intro _ (Exists.intro _ (And.intro rfl (And.intro rfl rfl)))) ?_ | fail)
   change DoesX Tryz.prog 51 _ _ _ _
   refine DoesX.on 19 [1] _ _ (DoesX.of (strItoa x.t ht.1 ht.2 ?_))
   repeat' (first | refine And.intro rfl ?_ | refine And.intro (And.intro (by simp only [List.length_append,List.length_singleton];omega) rfl) ?_ | refine And.intro (by simp only [List.length_append,List.length_singleton];omega) ?_ | refine And.intro (Exists.intro _ (Exists.intro _ (And.intro rfl (And.intro rfl rfl)))) ?_ | fail)
   change DoesX Tryz.prog 51 _ _ _ _
   refine DoesX.on 19 [1] _ _ (DoesX.of (strItoa x.v hvv.1 hvv.2 ?_))
   repeat' (first | refine And.intro rfl ?_ | refine And.intro (And.intro (by simp only [List.length_append,List.length_singleton];omega) rfl) ?_ | refine And.intro (by simp only [List.length_append,List.length_singleton];omega) ?_ | refine And.intro (Exists.intro _ (Exists.intro _ (And.intro rfl (And.intro rfl rfl)))) ?_ | fail)
   have h4:=three_len ha ht hvv
   refine At.mk' [5,12,13,14] (i+1) ⟨hlt,by omega⟩ ⟨?_,rfl⟩ rfl rfl (by simp) (by simp) (by decide)
   rw [wrap_i64 (i+1) (by omega) (by omega)]
   have:eventsT (d.m.el.take (i+1))=eventsT (d.m.el.take i)++threeT x.a x.t x.v:=by
    rw [List.take_add_one,hx,eventsT,eventsT]
    simp
   rw [this]
   rfl
 · have hlt:¬(i:Int)<(d.m.el.length:Int):=oFa hlt
   obtain rfl:i=d.m.el.length:=by omega
   rw [List.take_length]
   refine ⟨17,[0,1,2,3,4,5,6,7,8,9,10,11,12,13,14,15,16],_,_,rfl,by decide,by decide,by decide,by decide,by decide,rfl,rfl,rfl,rfl,rfl,hK _ v rfl hv hw⟩

end
end
end Go.Mac
end
section
namespace Go.Mac
open Go Go.ChangeShapes Go.WideShapes Go.ChangeAt Go.RowKit

theorem Bel.toBelow {w w':World} (h:Bel (· < w.heap.size) w w'):Below w.heap.size w w':=⟨h.os,h.tape,h.output,h.size,h.block⟩

theorem Rel.begin {w:World} {L:Nat→Loc} {H:List PO} (h:∀ (i:Nat) (o:PO),H[i]? = some o→OR H.length L w o (L i)∧(∀ b,¬Own o (L i) b)∧∀ b,Ro o (L i) b→b<w.heap.size) :
  Rel (· < w.heap.size) (· < w.heap.size) w L H w :=
 ⟨Bel.refl _ _,fun _ hk=>hk,fun i o hi=>(h i o hi).1,fun i o b hi hb=>absurd hb ((h i o hi).2.1 b),fun i o b hi hb=>(h i o hi).2.2 b hb,fun _ hb=>hb⟩

section

variable {H:Type} {enc:TypeId×Value→H} {P:Program}

theorem trodAll_below (hl:laidOutB P=true) {W W':World} (hb:Below W.heap.size W W') {sp:Nat→Bool}:∀ {ts:List TypeId} {vs:List Value} {ds:List (DataW H)} {ps:List MemPlace},
  (∀ t∈ts,P.readableRec t=true∧t<P.types.size)→DataW.TrodAll enc P W 0 (fun _=>true) true ts vs ds ps→(∀ x∈ps,x.block<W.heap.size)→(∀ x∈ps,sp x.block=true)→DataW.TrodAll enc P W' 0 sp true ts vs ds ps
 | [],vs,ds,ps,_,h,_,_=>by
   obtain ⟨rfl,rfl,rfl⟩:=trodAll_nil h
   exact trodAll_mk0
 | t::ts,vs,ds,ps,hr,h,hlt,hsp=>by
   obtain ⟨v,vs',d,ds',p,q,rfl,rfl,rfl,h0,h1⟩:=trodAll_cons h
   obtain ⟨h2,h3⟩:=hr t (by simp)
   exact trodAll_cons_mk (WideElems.Trod_stays hl h2 h3 h0 (fun x hx=>hb.same (hlt x (by simp [hx]))) fun x hx=>hsp x (by simp [hx]))
    (trodAll_below hl hb (fun t ht=>hr t (by simp [ht])) h1 (fun x hx=>hlt x (by simp [hx])) fun x hx=>hsp x (by simp [hx]))

theorem post_true {f:Func} {s:ChangeSpec} {apart fresh handsOn again:Bool} {W W':World} {args:Array Value} {ds gs:List (DataW H)} {before:List MemPlace} {b:TypeId}
  (hl:laidOutB P=true) (hr0:(f.params.toList.all fun t=>P.readableRec t && Nat.blt t P.types.size)=true) (hres:f.resultTypes = #[b]) (hbool:P.underlying b=some .bool) (hvars:s.vars=[])
  (hW:DataW.Whole enc P f.params.toList s.vars apart W args.toList ds gs before) (hs:s.fn H (ds++gs) = { results:=[.lit (.bool true)],args:=ds }) (hb:Below W.heap.size W W') :
  s.post enc P f apart fresh handsOn again W args (.bool true) W':=by
 have hr:∀ t∈f.params.toList,P.readableRec t=true∧t<P.types.size:=fun t ht=>by
  have:=List.all_eq_true.1 hr0 t ht
  simpa [Nat.blt_eq] using this
 have hW0:=hW
 obtain ⟨p,q,hA,hV,hbef,hfz,hnd⟩:=hW
 rw [hvars] at hV
 obtain ⟨rfl,rfl⟩:=trodVars_none hV
 rw [List.append_nil] at hbef
 subst hbef
 have hlt:∀ x∈before,x.block<W.heap.size:=fun x hx=>hW0.lt x hx
 have hold:∀ x∈before,(fun b=>decide (b<W.heap.size)) x.block=true:=fun x hx=>by simpa using hlt x hx
 have hargs:∀ sp:Nat→Bool,(∀ x∈before,sp x.block=true)→DataW.TrodAll enc P W' 0 sp true f.params.toList args.toList (s.fn H (ds++[])).args before:=fun sp hsp=>by
  rw [hs];exact trodAll_below hl hb hr hA hlt hsp
 have hresm:∀ (b:Nat) (sp:Nat→Bool) (hd:Bool),DataW.TrodAll enc P W' b sp hd f.resultTypes.toList ((Value.bool true).resultList f.resultTypes.size) (s.fn H (ds++[])).results []:=fun b sp hd=>by
  rw [hs,hres];exact trodAll_mk1 (shut_bool hbool _)
 have hv0:∀ sp:Nat→Bool,DataW.TrodVars enc P W' sp s.vars (s.fn H (ds++[])).vars []:=fun sp=>by rw [hs,hvars];rfl
 refine ⟨ds,[],before,[],before,[],hW0,hresm _ _ _,hargs _ hold,hv0 _,World.keptBut_mono (fun p hp=>⟨hp,.inr (by simpa using hp)⟩) (hb.frame (·∈before)),fun _=>?_⟩
 refine ⟨?_,_,_,([]++before)++[],⟨[]++before,[],trodAll_append (hargs _ (fun _ _=>rfl)) (hresm _ _ _),hv0 _,rfl,?_,?_⟩,?_⟩
 · exact ok_one hres rfl (okWide_bool_mk hbool _)
 · intro b off hp
   have hin:MemPlace.cell b off∈before:=by simpa using hp
   rw [hb.frozen (hlt _ hin)]
   exact hfz b off hin
 · intro ha
   have:=hnd ha
   simpa using this
 · intro p hp _
   simpa using hp

end

section

variable {H:Type} {enc:TypeId×Value→H} {P:Program} {w:World} {base:Nat} {spare:Nat→Bool} {held:Bool}

end

end Go.Mac
end

section
open Go Go.Proofs Go.Mac
set_option maxRecDepth 100000
namespace Go.Mac
section
section

variable {B R:Nat→Prop} {w0:World} {N:Nat} {L:Nat→Loc} {H:List PO} {P:Program} {w:World} {a:Act} {nt N0:Nat} {T:Tm} {M:List Nat}
 {Q:Ex→Tm→List Nat→List PO→Prop}

def tmR (g:Nat→Nat) (T:Tm):Tm→Prop
 | []=>True
 | (i,v)::T0=>lk T i=renA g v∧tmR g T T0

theorem tmR_spec {g:Nat→Nat} {T:Tm}:∀ {T0:Tm},tmR g T T0→∀ i,lk T0 i=.u∨lk T i=renA g (lk T0 i)
 | [],_,_=>.inl rfl
 | (j,v)::T0,h,i=>by
   rw [lk_cons]
   split
   · rename_i hj
     subst hj
     exact .inr h.1
   · exact tmR_spec h.2 i

structure AtR {α : Type} (N0:Nat) (tm : α→Tm) (hp : α→List PO) (M0:List Nat) (T:Tm) (M:List Nat) (H:List PO) (I : α→Prop):Prop where
 get:∃ (x : α) (ids:List Nat) (m:Nat),I x∧H.length=m∧tmR (gmap ids m) T (tm x)∧ids.take N0=List.range N0∧ids.Nodup∧(∀ i∈ids,i<m)∧(hp x).length=ids.length∧lowT ids.length (tm x)=true∧lowH ids.length (hp x)=true ∧
  (ids.map fun i=>H[i]?)=((hp x).map fun o=>some (renO (gmap ids m) o))∧∀ i∈M,i∈M0

theorem AtR.use {α : Type} {tm : α→Tm} {hp : α→List PO} {M0:List Nat} {I : α→Prop} (h:AtR N0 tm hp M0 T M H I) {L0:Nat→Loc} (hag:Agree N0 M L0 L) (hrel:Rel B R w0 L H w) (ht:TR H.length L nt T a) :
  ∃ L2 x,I x∧N0≤(hp x).length∧Agree N0 M0 L0 L2∧Rel B R w0 L2 (hp x) w∧TR (hp x).length L2 nt (tm x) a:=by
 obtain ⟨x,ids,m,hI,hm,hT,hr,hnd,hlt,hl,hlo,hlh,hH,hM⟩:=h.get
 subst hm
 have hlen:N0≤ids.length:=by
  have:=congrArg List.length hr
  simp at this
  omega
 refine ⟨fun i=>L (gmap ids H.length i),x,hI,by omega,fun i hi hm=>?_,?_,?_,ht.defers,ht.room⟩
 · rw [←hag i hi fun h=>hm (hM i h)]
   have:ids[i]? = some i:=by
    have h5:=congrArg (·[i]?) hr
    simp only [List.getElem?_take_of_lt (show i<N0 by omega),List.getElem?_range (show i<N0 by omega)] at h5
    exact h5
   show L (gmap ids H.length i)=_
   rw [gmap_some this]
 · refine hrel.keep ids hnd hlt (hp x) hl hlh fun k j o hk ho=>?_
   have:=congrArg (·[k]?) hH
   simp only [List.getElem?_map,hk,ho,Option.map_some,Option.some.injEq] at this
   exact this
 · intro i
   rcases tmR_spec hT i with e | e
   · rw [e];trivial
   · rw [hl]
     refine VA.unren (g:=gmap ids H.length) (N:=H.length) (fun i hi=>?_) (lowT_spec hlo i) (by rw [←e];exact ht.get i)
     rw [gmap_some (j:=ids[i]) (by simp [hi])]
     exact hlt _ (List.getElem_mem hi)

theorem SS.loopR {c:Code} {α : Type} (I : α→Prop) (tm : α→Tm) (hp : α→List PO) (μ : α→Nat) (M0:List Nat) (h0:At N0 tm hp M0 T M H I)
  (hr:∀ x,I x→SS P nt N0 c (tm x) M0 (hp x) fun e T' M' H'=>match e with
    | .normal=>AtR N0 tm hp M0 T' M' H' fun y=>I y∧μ y < μ x
    | e=>Q e T' M' H'):SS P nt N0 (.loop c) T M H Q:=by
 refine ⟨fun B R w0 L0 L w a R0 h1 h2 h3 h4 h5=>?_⟩
 let J:Nat→Act→World→Prop:=fun n a' w'=>∃ L' x,N0≤(hp x).length∧Agree N0 M0 L0 L'∧Rel B R w0 L' (hp x) w'∧TR (hp x).length L' nt (tm x) a'∧I x∧μ x=n
 let m:Act→World→Nat:=fun a' w'=>Classical.epsilon fun n=>J n a' w'∧∀ m,J m a' w'→n≤m
 have hm:∀ n a' w',J n a' w'→J (m a' w') a' w'∧m a' w'≤n:=by
  intro n a' w' hj
  have hex:∃ n,J n a' w'∧∀ m,J m a' w'→n≤m:=by
   clear hr h0 h5
   induction n using Nat.strongRecOn with
   | _ n ih =>
     by_cases hm:∃ m,m<n∧J m a' w'
     · obtain ⟨m,hlt,hpm⟩:=hm
       exact ih m hlt hpm
     · exact ⟨n,hj,fun m hpm=>Nat.le_of_not_lt fun hlt=>hm ⟨m,hlt,hpm⟩⟩
  have hs:J (m a' w') a' w'∧∀ k,J k a' w'→m a' w'≤k:=Classical.epsilon_spec hex
  exact ⟨hs.1,hs.2 n hj⟩
 obtain ⟨x0,hI0,g1,g2,g3,g4⟩:=h0.use h2 h3 h4
 refine wp_loop (fun a' w'=>∃ n,J n a' w') m ⟨_,L,x0,g1,g2,g3,g4,hI0,rfl⟩ ?_
 rintro a1 w1 ⟨n1,hj1⟩
 obtain ⟨⟨L1,x1,k1,k2,k3,k4,k5,k6⟩,_⟩:=hm n1 a1 w1 hj1
 refine (hr x1 k5).run B R w0 L0 L1 w1 a1 _ k1 k2 k3 k4 ?_
 intro e L' T' M' H' w' a' j1 j2 j3 j4 j5
 cases e with
 | normal =>
   obtain ⟨L2,x2,⟨hI2,hlt⟩,i1,i2,i3,i4⟩:=AtR.use j5 j2 j3 j4
   have hj2:J (μ x2) a' w':=⟨L2,x2,i1,i2,i3,i4,hI2,rfl⟩
   have:=(hm _ a' w' hj2).2
   exact ⟨⟨_,hj2⟩,by omega⟩
 | exit i=>exact h5 (.exit i) L' T' M' H' w' a' j1 j2 j3 j4 j5
 | ret=>exact h5 .ret L' T' M' H' w' a' j1 j2 j3 j4 j5

theorem AtR.mk' {α : Type} {tm : α→Tm} {hp : α→List PO} {M0:List Nat} {I : α→Prop} (ids:List Nat) (m:Nat) (x : α) (hI:I x) (hm:H.length=m) (hT:tmR (gmap ids m) T (tm x)) (hr:ids.take N0=List.range N0) (hnd:ids.Nodup) (hlt:∀ i∈ids,i<m)
  (hl:(hp x).length=ids.length) (hlo:lowT ids.length (tm x)=true) (hlh:lowH ids.length (hp x)=true) (hH:(ids.map fun i=>H[i]?)=((hp x).map fun o=>some (renO (gmap ids m) o))) (hM:∀ i∈M,i∈M0):AtR N0 tm hp M0 T M H I :=
 ⟨x,ids,m,hI,hm,hT,hr,hnd,hlt,hl,hlo,hlh,hH,hM⟩

end
end
end Go.Mac
end
section
namespace Go.Mac

structure PtZ where
 w:Int
 t:Int
 k:Int
 l:Bool

abbrev rowPt (x:PtZ):List FC:=[.int .i64 x.w,.int .i64 x.t,.int .i64 x.k,.bool x.l]

end Go.Mac
end

section
open Go Go.Proofs Go.Mac
set_option maxRecDepth 100000
namespace Go.Mac
section
def Srt (l:List PtZ):Prop:=l.Pairwise fun x y=>x.w≤y.w

structure Keys (l l':List PtZ):Prop where
 len:l'.length=l.length
 flt:∀ k:Int,l'.filter (fun x=>x.w == k)=l.filter (fun x=>x.w == k)

def St (l l':List PtZ):Prop:=Srt l'∧Keys l l'

theorem Keys.refl (l:List PtZ):Keys l l:=⟨rfl,fun _=>rfl⟩
theorem Keys.trans {a b c:List PtZ} (h:Keys a b) (h2:Keys b c):Keys a c:=⟨h2.len.trans h.len,fun k=>(h2.flt k).trans (h.flt k)⟩
theorem Keys.app {a a' b b':List PtZ} (h:Keys a a') (h2:Keys b b'):Keys (a++b) (a'++b') :=
 ⟨by rw [List.length_append,List.length_append,h.len,h2.len],fun k=>by rw [List.filter_append,List.filter_append,h.flt,h2.flt]⟩

theorem Keys.mem {l l':List PtZ} (h:Keys l l') {x:PtZ}:x∈l'↔x∈l:=by
 have:=h.flt x.w
 constructor <;> intro hx
 · have h1:x∈l'.filter (fun y=>y.w == x.w):=List.mem_filter.2 ⟨hx,by simp⟩
   rw [this] at h1
   exact (List.mem_filter.1 h1).1
 · have h1:x∈l.filter (fun y=>y.w == x.w):=List.mem_filter.2 ⟨hx,by simp⟩
   rw [←this] at h1
   exact (List.mem_filter.1 h1).1

theorem flt_nil {l:List PtZ} {k:Int} (h:∀ x∈l,x.w≠k):l.filter (fun x=>x.w == k)=[]:=by
 rw [List.filter_eq_nil_iff]
 intro x hx
 simpa using h x hx

theorem Keys.swap {X Y:List PtZ} (h:∀ x∈X,∀ y∈Y,y.w<x.w):Keys (X++Y) (Y++X):=by
 refine ⟨by simp [Nat.add_comm],fun k=>?_⟩
 rw [List.filter_append,List.filter_append]
 by_cases hx:∃ x∈X,x.w=k
 · obtain ⟨x,hx,rfl⟩:=hx
   rw [flt_nil (l:=Y) fun y hy=>by have:=h x hx y hy;omega]
   simp
 · rw [flt_nil (l:=X) fun x hx' e=>hx ⟨x,hx',e⟩]
   simp

theorem Srt.app {X Y:List PtZ} (hx:Srt X) (hy:Srt Y) (h:∀ x∈X,∀ y∈Y,x.w≤y.w):Srt (X++Y):=List.pairwise_append.2 ⟨hx,hy,h⟩
theorem Srt.left {X Y:List PtZ} (h:Srt (X++Y)):Srt X:=(List.pairwise_append.1 h).1
theorem Srt.right {X Y:List PtZ} (h:Srt (X++Y)):Srt Y:=(List.pairwise_append.1 h).2.1
theorem Srt.le {X Y:List PtZ} (h:Srt (X++Y)):∀ x∈X,∀ y∈Y,x.w≤y.w:=(List.pairwise_append.1 h).2.2
theorem Srt.get {l:List PtZ} (h:Srt l) {i j:Nat} {x y:PtZ} (hij:i≤j) (hx:l[i]? = some x) (hy:l[j]? = some y):x.w≤y.w:=by
 rcases Nat.lt_or_eq_of_le hij with hij | rfl
 · obtain ⟨h1,rfl⟩:=List.getElem?_eq_some_iff.1 hx
   obtain ⟨h2,rfl⟩:=List.getElem?_eq_some_iff.1 hy
   exact List.pairwise_iff_getElem.1 h i j h1 h2 hij
 · rw [hx] at hy
   obtain rfl:=Option.some.inj hy
   exact Int.le_refl _

theorem St.refl {l:List PtZ} (h:Srt l):St l l:=⟨h,.refl l⟩
theorem St.mem {l l':List PtZ} (h:St l l') {x:PtZ}:x∈l'↔x∈l:=h.2.mem
theorem St.len {l l':List PtZ} (h:St l l'):l'.length=l.length:=h.2.len

theorem St.cross {X1 X2 Y1 Y2 L R:List PtZ} (hx:Srt (X1++X2)) (hy:Srt (Y1++Y2)) (h1:∀ x∈X2,∀ y∈Y1,y.w<x.w) (h2:∀ x∈X1,∀ y∈Y2,x.w≤y.w) (hL:St (X1++Y1) L) (hR:St (X2++Y2) R):St ((X1++X2)++(Y1++Y2)) (L++R):=by
 refine ⟨hL.1.app hR.1 fun l hl r hr=>?_,?_⟩
 · rw [hL.mem,List.mem_append] at hl
   rw [hR.mem,List.mem_append] at hr
   rcases hl with hl | hl <;> rcases hr with hr | hr
   · exact hx.le l hl r hr
   · exact h2 l hl r hr
   · have:=h1 r hr l hl;omega
   · exact hy.le l hl r hr
 · have e1:Keys (X1++X2++(Y1++Y2)) (X1++Y1++(X2++Y2)):=by
    have:=(Keys.refl X1).app ((Keys.swap h1).app (Keys.refl Y2))
    simp only [List.append_assoc] at this ⊢
    exact this
   exact e1.trans (hL.2.app hR.2)

theorem St.front {x:PtZ} {Y1 Y2:List PtZ} (hy:Srt (Y1++Y2)) (h1:∀ y∈Y1,y.w<x.w) (h2:∀ y∈Y2,x.w≤y.w):St ([x]++(Y1++Y2)) (Y1++([x]++Y2)):=by
 refine ⟨?_,?_⟩
 · refine hy.left.app (Srt.app (List.pairwise_singleton _ _) hy.right fun a ha b hb=>?_) fun a ha b hb=>?_
   · obtain rfl:=List.mem_singleton.1 ha
     exact h2 b hb
   · rcases List.mem_append.1 hb with hb | hb
     · obtain rfl:=List.mem_singleton.1 hb
       have:=h1 a ha;omega
     · exact hy.le a ha b hb
 · have:=(Keys.swap (X:=[x]) (Y:=Y1) fun a ha b hb=>by obtain rfl:=List.mem_singleton.1 ha;exact h1 b hb).app (Keys.refl Y2)
   simp only [List.append_assoc] at this ⊢
   exact this

theorem St.back {y:PtZ} {X1 X2:List PtZ} (hx:Srt (X1++X2)) (h1:∀ x∈X1,x.w≤y.w) (h2:∀ x∈X2,y.w<x.w):St ((X1++X2)++[y]) (X1++([y]++X2)):=by
 refine ⟨?_,?_⟩
 · refine hx.left.app (Srt.app (List.pairwise_singleton _ _) hx.right fun a ha b hb=>?_) fun a ha b hb=>?_
   · obtain rfl:=List.mem_singleton.1 ha
     have:=h2 b hb;omega
   · rcases List.mem_append.1 hb with hb | hb
     · obtain rfl:=List.mem_singleton.1 hb
       exact h1 a ha
     · exact hx.le a ha b hb
 · have:=(Keys.refl X1).app (Keys.swap (X:=X2) (Y:=[y]) fun a ha b hb=>by obtain rfl:=List.mem_singleton.1 hb;exact h2 a ha)
   simp only [List.append_assoc] at this ⊢
   exact this
end
section
inductive EfS where
 | s0
 | s1 (w:Int)
 | s2 (w:Int)
 | s3 (c w:Int)

def hitB (t frm tz:Int) (done:Bool) (a:ActZ):Bool:=a.t == t && (a.c == 0 && (decide (frm<a.w) && !(done && decide (a.w≥tz))))

def efStep (s:EfS) (a:ActZ):EfS :=
 if a.o=9∧a.x≠a.y then .s2 a.w
 else match s with
  | .s0=>.s1 a.w
  | .s1 _=>.s1 a.w
  | .s2 c=>.s3 c a.w
  | .s3 c _=>.s3 c a.w

def efRun (t frm tz:Int) (done:Bool) (l:List ActZ):EfS:=l.foldl (fun s a=>if hitB t frm tz done a=true then efStep s a else s) .s0

def efPts (t k w:Int) (done:Bool):EfS→List PtZ
 | .s0=>[]
 | .s1 v=>if done=true then [⟨v,t,k,false⟩] else []
 | .s2 v=>if w=9∧done=true then [⟨v,t,k,false⟩,⟨v,t,k,true⟩] else [⟨v,t,k,false⟩]
 | .s3 c v=>if w=9∧done=true then [⟨c,t,k,false⟩,⟨v,t,k,true⟩] else [⟨c,t,k,false⟩]

def effZ (t k w:Int) (acts:List ActZ) (frm tz:Int) (done:Bool):List PtZ:=efPts t k w done (efRun t frm tz done acts)

theorem efRun_take {t frm tz:Int} {done:Bool} {l:List ActZ} {i:Nat} {a:ActZ} (h:l[i]? = some a):efRun t frm tz done (l.take (i+1))=if hitB t frm tz done a=true then efStep (efRun t frm tz done (l.take i)) a else efRun t frm tz done (l.take i):=by
 rw [efRun,List.take_add_one,h,List.foldl_append]
 rfl
end
end Go.Mac
end
