/- Texts that belong together; the first of them:  -/
import Derived.Test.YtollgfhpcidkgaaGreatDoorA12
import Derived.Test.YtollgfhpcidkgaaGreatDoorA7
import Derived.Test.YtollgfhpcidkgaaGreatDoorA19
import Derived.Test.YtollgfhpcidkgaaGreatDoorA15

section
open Go Go.Proofs Go.Mac
set_option maxRecDepth 100000
namespace Go.Mac
section
def gFitB (w n:Int):Bool :=
 if w=6 then decide (1≤n∧n≤65535) else if w=10 then decide (0≤n∧n<2147483648) else if w=7∨w=8∨w=9∨w=11 then decide (n=0) else false

abbrev callG (w n:Int):PV:=.agg [.f (.int .i64 w),.f (.int .i64 n)]

def overI (z:Int):List InsZ:=[⟨6,1,0,0,0⟩,⟨5,2,1,63,1⟩,⟨11,2,1,z,0⟩]
def awaitT (p:Int):List InsZ:=[⟨5,2,1,32,31⟩,⟨13,2,5,p+6,0⟩,⟨10,p+9,0,0,0⟩,⟨14,0,1,0,0⟩,⟨10,p,0,0,0⟩,⟨1,2,-1,0,0⟩,⟨16,3,2,0,0⟩]
def awaitI (p:Int):List InsZ:=overI (p+8)++awaitT p
def closesT (p:Int):List InsZ:=[⟨3,4,1,-9223372036854775808,0⟩,⟨9,3,0,1,4⟩,⟨11,3,0,p,0⟩,⟨15,0,16,-1,0⟩,⟨1,2,0,0,0⟩,⟨10,p+10,0,0,0⟩,⟨1,2,-1,0,0⟩,⟨16,3,2,0,0⟩]
def closesI (p:Int):List InsZ:=overI (p+9)++closesT p
def registerT (p n:Int):List InsZ:=[⟨5,2,1,16,16⟩,⟨1,3,65535-n,0,0⟩,⟨12,3,2,p+13,0⟩,⟨3,4,1,65537*n,0⟩,⟨9,3,0,1,4⟩,⟨11,3,0,p,0⟩,⟨5,2,1,32,31⟩,⟨10,p+14,0,0,0⟩,⟨1,2,-1,0,0⟩,⟨10,p+14,0,0,0⟩,⟨1,2,-3,0,0⟩,⟨16,3,2,0,0⟩]
def registerI (p n:Int):List InsZ:=overI (p+11)++registerT p n
def arriveT (p more fail:Int):List InsZ:=[⟨5,2,1,0,16⟩,⟨11,2,0,p+27,0⟩,⟨3,4,1,more,0⟩,⟨11,2,1,p+8,0⟩,⟨10,p+18,0,0,0⟩,⟨5,3,4,16,16⟩,⟨11,3,0,p+17,0⟩,⟨4,4,4,3,0⟩,⟨5,3,1,32,31⟩,⟨11,3,2147483647,p+15,0⟩,⟨3,4,4,4294967296,0⟩,⟨10,p+18,0,0,0⟩,
 ⟨3,4,4,-9223372032559808512,0⟩,⟨10,p+18,0,0,0⟩,⟨3,4,4,-9223372036854775808,0⟩,⟨9,3,0,1,4⟩,⟨11,3,0,p,0⟩,⟨5,5,1,32,31⟩,⟨11,2,1,p+23,0⟩,⟨10,p+29,0,0,0⟩,⟨15,0,16,-1,0⟩,⟨10,p+29,0,0,0⟩,⟨1,2,-1,0,0⟩,⟨10,fail,0,0,0⟩,⟨1,2,-2,0,0⟩,⟨10,fail,0,0,0⟩]
def arriveI (p more fail:Int):List InsZ:=overI (p+25)++arriveT p more fail
def tellsI:List InsZ:=[⟨2,2,5,0,0⟩,⟨16,3,2,0,0⟩]

section

variable {K:KP}

theorem gFits (w n:Int) (hK:K (bl (gFitB w n)) [] []):Does Tryz.prog 183 [.p (callG w n)] [] K:=by
 refine does Tryz.func183 rfl (by decide) ?_
 refine bZ (fun h=>?_) (fun h6=>?_)
 · have h:w=6:=by simpa using h
   refine bZ (fun h1=>?_) (fun h1=>?_)
   · exact eqb (K:=fun b=>K (bl b) [] []) hK (by have h1:=oTr h1;simp [gFitB,h,h1])
   · exact eqb (K:=fun b=>K (bl b) [] []) hK (by have h1:=oFa h1;simp [gFitB,h];omega)
 have h6:¬w=6:=by simpa using h6
 refine bZ (fun h=>?_) (fun h10=>?_)
 · have h:w=10:=by simpa using h
   refine bZ (fun h1=>?_) (fun h1=>?_)
   · exact eqb (K:=fun b=>K (bl b) [] []) hK (by have h1:=oTr h1;simp [gFitB,h,h1])
   · exact eqb (K:=fun b=>K (bl b) [] []) hK (by have h1:=oFa h1;simp [gFitB,h];omega)
 have h10:¬w=10:=by simpa using h10
 have z:(w=7∨w=8∨w=9∨w=11)→K (bl (n == 0)) [] []:=fun h=>eqb (K:=fun b=>K (bl b) [] []) hK (by simp [gFitB,h6,h10,h,Bool.beq_eq_decide_eq])
 refine bZ (fun h=>z (.inl (by simpa using h))) (fun h7=>?_)
 refine bZ (fun h=>z (.inr (.inl (by simpa using h)))) (fun h8=>?_)
 refine bZ (fun h=>z (.inr (.inr (.inl (by simpa using h))))) (fun h9=>?_)
 refine bZ (fun h=>z (.inr (.inr (.inr (by simpa using h))))) (fun h11=>?_)
 exact eqb (K:=fun b=>K (bl b) [] []) hK (by simp at h7 h8 h9 h11;simp [gFitB,h6,h10,h7,h8,h9,h11])

theorem gOver (z:Int) (h:K (cv (.slc 0 0 3 none true)) [] [.rows false 5 ((overI z).map rowIns)]):Does Tryz.prog 263 [i64 z] [] K:=by
 refine does Tryz.func263 rfl (by decide) ?_
 exact h

theorem gAwait (p:Int) (hp:0≤p∧p≤1000000) (h:K (cv (.slc 0 0 10 none true)) [] [.rows false 5 ((awaitI p).map rowIns)]):Does Tryz.prog 225 [i64 p] [] K:=by
 refine Does.keep 0 rfl ?_
 refine does Tryz.func225 rfl (by decide) ?_
 change Does Tryz.prog 263 _ _ _
 refine Does.alone 0 (gOver _ ?_)
 rw [awaitI,awaitT,←wrap_i64 (p+8) (by omega) (by omega),←wrap_i64 (p+6) (by omega) (by omega),←wrap_i64 (p+9) (by omega) (by omega),List.map_append] at h
 refine And.intro (Nat.le_of_ble_eq_true rfl) (Or.inl (And.intro rfl (And.intro rfl (And.intro (Nat.le_of_ble_eq_true rfl) (And.intro (Nat.le_of_ble_eq_true rfl) ?_)))))
 exact ⟨2,[0],_,cv (.slc 0 0 10 none true),rfl,rfl,by decide,by decide,rfl,rfl,rfl,rfl,rfl,h⟩

theorem gCloses (p:Int) (hp:0≤p∧p≤1000000) (h:K (cv (.slc 0 0 11 none true)) [] [.rows false 5 ((closesI p).map rowIns)]):Does Tryz.prog 226 [i64 p] [] K:=by
 refine Does.keep 0 rfl ?_
 refine does Tryz.func226 rfl (by decide) ?_
 change Does Tryz.prog 263 _ _ _
 refine Does.alone 0 (gOver _ ?_)
 rw [closesI,closesT,←wrap_i64 (p+9) (by omega) (by omega),←wrap_i64 (p+10) (by omega) (by omega),List.map_append] at h
 refine And.intro (Nat.le_of_ble_eq_true rfl) (Or.inl (And.intro rfl (And.intro rfl (And.intro (Nat.le_of_ble_eq_true rfl) (And.intro (Nat.le_of_ble_eq_true rfl) ?_)))))
 exact ⟨2,[0],_,cv (.slc 0 0 11 none true),rfl,rfl,by decide,by decide,rfl,rfl,rfl,rfl,rfl,h⟩

theorem gRegister (p n:Int) (hp:0≤p∧p≤1000000) (hn:0≤n∧n≤65535) (h:K (cv (.slc 0 0 15 none true)) [] [.rows false 5 ((registerI p n).map rowIns)]):Does Tryz.prog 224 [i64 p,i64 n] [] K:=by
 refine Does.keep 0 rfl ?_
 refine does Tryz.func224 rfl (by decide) ?_
 change Does Tryz.prog 263 _ _ _
 refine Does.alone 0 (gOver _ ?_)
 rw [registerI,registerT,←wrap_i64 (p+11) (by omega) (by omega),←wrap_i64 (p+13) (by omega) (by omega),←wrap_i64 (p+14) (by omega) (by omega),←wrap_i64 (65535-n) (by omega) (by omega),←wrap_i64 (65537*n) (by omega) (by omega),List.map_append] at h
 refine And.intro (Nat.le_of_ble_eq_true rfl) (Or.inl (And.intro rfl (And.intro rfl (And.intro (Nat.le_of_ble_eq_true rfl) (And.intro (Nat.le_of_ble_eq_true rfl) ?_)))))
 exact ⟨2,[0],_,cv (.slc 0 0 15 none true),rfl,rfl,by decide,by decide,rfl,rfl,rfl,rfl,rfl,h⟩

theorem gArrive (p more fail:Int) (hp:0≤p∧p≤1000000) (h:K (cv (.slc 0 0 29 none true)) [] [.rows false 5 ((arriveI p more fail).map rowIns)]):Does Tryz.prog 227 [i64 p,i64 more,i64 fail] [] K:=by
 refine Does.keep 0 rfl ?_
 refine does Tryz.func227 rfl (by decide) ?_
 change Does Tryz.prog 263 _ _ _
 refine Does.alone 0 (gOver _ ?_)
 rw [arriveI,arriveT,←wrap_i64 (p+25) (by omega) (by omega),←wrap_i64 (p+27) (by omega) (by omega),←wrap_i64 (p+8) (by omega) (by omega),←wrap_i64 (p+18) (by omega) (by omega),←wrap_i64 (p+17) (by omega) (by omega),←wrap_i64 (p+15) (by omega) (by omega),←wrap_i64 (p+23) (by omega) (by omega),←wrap_i64 (p+29) (by omega) (by omega),List.map_append] at h
 refine And.intro (Nat.le_of_ble_eq_true rfl) (Or.inl (And.intro rfl (And.intro rfl (And.intro (Nat.le_of_ble_eq_true rfl) (And.intro (Nat.le_of_ble_eq_true rfl) ?_)))))
 exact ⟨2,[0],_,cv (.slc 0 0 29 none true),rfl,rfl,by decide,by decide,rfl,rfl,rfl,rfl,rfl,h⟩

theorem gTells (h:K (cv (.slc 0 0 2 none true)) [] [.rows false 5 (tellsI.map rowIns)]):Does Tryz.prog 228 [] [] K:=by
 refine does Tryz.func228 rfl (by decide) ?_
 exact h

def gathI (p:Int) (c:CallZ):List InsZ :=
 if c.w=6 then registerI p c.n
 else if c.w=10 then ⟨1,5,c.n,0,0⟩::awaitI (p+1)
 else if c.w=11 then closesI p
 else if c.w=9 then arriveI p (-1) (p+38)++awaitI (p+29)
 else if c.w=8 then arriveI p (-65537) (p+30)++tellsI
 else arriveI p (-1) (p+30)++tellsI

theorem gathI_len (p:Int) (c:CallZ):(gathI p c).length≤39∧1≤(gathI p c).length:=by
 rw [gathI]
 repeat' split
 all_goals exact ⟨Nat.le_of_ble_eq_true rfl,Nat.le_of_ble_eq_true rfl⟩

theorem gOne (p:Int) (hp:0≤p∧p≤900000) (c:CallZ) (hc:gFitB c.w c.n=true) (h:K (cv (.slc 0 0 (gathI p c).length none true)) [] [.rows false 5 ((gathI p c).map rowIns)]):Does Tryz.prog 184 [i64 p,.p (callG c.w c.n)] [] K:=by
 refine Does.keep 0 rfl ?_
 refine does Tryz.func184 rfl (by decide) ?_
 have e1:IntKind.i64.wrap (p+1)=p+1:=wrap_i64 _ (by omega) (by omega)
 have e29:IntKind.i64.wrap (p+29)=p+29:=wrap_i64 _ (by omega) (by omega)
 have e30:IntKind.i64.wrap (p+30)=p+30:=wrap_i64 _ (by omega) (by omega)
 have e38:IntKind.i64.wrap (p+38)=p+38:=wrap_i64 _ (by omega) (by omega)
 refine bZ (fun hw=>?_) (fun hw=>?_)
 · have hw:c.w=6:=beq_iff_eq.1 hw
   rw [gFitB,if_pos hw] at hc
   have hn:=oTr hc
   rw [gathI,if_pos hw] at h
   change Does Tryz.prog 224 _ _ _
   refine Does.alone 1 (gRegister p c.n (by omega) (by omega) ?_)
   exact ⟨2,[1],_,cv (.slc 0 0 15 none true),rfl,rfl,by decide,by decide,rfl,rfl,rfl,rfl,rfl,h⟩
 have hw6:¬c.w=6:=beq_eq_false_iff_ne.1 hw
 rw [gathI,if_neg hw6] at h
 refine bZ (fun hw=>?_) (fun hw=>?_)
 · have hw:c.w=10:=beq_iff_eq.1 hw
   rw [if_pos hw] at h
   have h:K (cv (.slc 0 0 11 none true)) [] [.rows false 5 ([rowIns ⟨1,5,c.n,0,0⟩]++(awaitI (p+1)).map rowIns)]:=h
   refine SS.drawR follows (by decide) ?_
   refine And.intro ?_ ?_
   · refine And.intro rfl (And.intro rfl ?_)
     change Does Tryz.prog 225 _ _ _
     rw [e1]
     refine Does.alone 2 (gAwait (p+1) (by omega) ?_)
     refine And.intro (Nat.le_of_ble_eq_true rfl) (Or.inl (And.intro rfl (And.intro rfl (And.intro (Nat.le_of_ble_eq_true rfl) (And.intro (Nat.le_of_ble_eq_true rfl) ?_)))))
     exact ⟨3,[1],_,cv (.slc 0 0 11 none true),rfl,rfl,by decide,by decide,rfl,rfl,rfl,rfl,rfl,h⟩
   · change Does Tryz.prog 225 _ _ _
     rw [e1]
     refine Does.alone 1 (gAwait (p+1) (by omega) ?_)
     refine And.intro rfl (And.intro rfl (And.intro rfl ?_))
     refine And.intro (Nat.le_of_ble_eq_true rfl) (Or.inl (And.intro rfl (And.intro rfl (And.intro (Nat.le_of_ble_eq_true rfl) (And.intro (Nat.le_of_ble_eq_true rfl) ?_)))))
     exact ⟨3,[2],_,cv (.slc 0 0 11 none true),rfl,rfl,by decide,by decide,rfl,rfl,rfl,rfl,rfl,h⟩
 have hw10:¬c.w=10:=beq_eq_false_iff_ne.1 hw
 rw [if_neg hw10] at h
 refine bZ (fun hw=>?_) (fun hw=>?_)
 · have hw:c.w=11:=beq_iff_eq.1 hw
   rw [if_pos hw] at h
   change Does Tryz.prog 226 _ _ _
   refine Does.alone 1 (gCloses p (by omega) ?_)
   exact ⟨2,[1],_,cv (.slc 0 0 11 none true),rfl,rfl,by decide,by decide,rfl,rfl,rfl,rfl,rfl,h⟩
 have hw11:¬c.w=11:=beq_eq_false_iff_ne.1 hw
 rw [if_neg hw11] at h
 refine bZ (fun hw=>?_) (fun hw=>?_)
 · have hw:c.w=9:=beq_iff_eq.1 hw
   rw [if_pos hw,List.map_append] at h
   change Does Tryz.prog 227 _ _ _
   rw [e38]
   refine Does.alone 1 (gArrive p _ _ (by omega) ?_)
   change Does Tryz.prog 225 _ _ _
   rw [e29]
   refine Does.alone 2 (gAwait (p+29) (by omega) ?_)
   refine And.intro (Nat.le_of_ble_eq_true rfl) (Or.inl (And.intro rfl (And.intro rfl (And.intro (Nat.le_of_ble_eq_true rfl) (And.intro (Nat.le_of_ble_eq_true rfl) ?_)))))
   exact ⟨3,[1],_,cv (.slc 0 0 39 none true),rfl,rfl,by decide,by decide,rfl,rfl,rfl,rfl,rfl,h⟩
 have hw9:¬c.w=9:=beq_eq_false_iff_ne.1 hw
 rw [if_neg hw9] at h
 refine bZ (fun hw=>?_) (fun hw=>?_)
 · have hw:c.w=8:=beq_iff_eq.1 hw
   rw [if_pos hw,List.map_append] at h
   change Does Tryz.prog 227 _ _ _
   rw [e30]
   refine Does.alone 1 (gArrive p _ _ (by omega) ?_)
   change Does Tryz.prog 228 _ _ _
   refine Does.alone 2 (gTells ?_)
   refine And.intro (Nat.le_of_ble_eq_true rfl) (Or.inl (And.intro rfl (And.intro rfl (And.intro (Nat.le_of_ble_eq_true rfl) (And.intro (Nat.le_of_ble_eq_true rfl) ?_)))))
   exact ⟨3,[1],_,cv (.slc 0 0 31 none true),rfl,rfl,by decide,by decide,rfl,rfl,rfl,rfl,rfl,h⟩
 have hw8:¬c.w=8:=beq_eq_false_iff_ne.1 hw
 rw [if_neg hw8,List.map_append] at h
 change Does Tryz.prog 227 _ _ _
 rw [e30]
 refine Does.alone 1 (gArrive p _ _ (by omega) ?_)
 change Does Tryz.prog 228 _ _ _
 refine Does.alone 2 (gTells ?_)
 refine And.intro (Nat.le_of_ble_eq_true rfl) (Or.inl (And.intro rfl (And.intro rfl (And.intro (Nat.le_of_ble_eq_true rfl) (And.intro (Nat.le_of_ble_eq_true rfl) ?_)))))
 exact ⟨3,[1],_,cv (.slc 0 0 31 none true),rfl,rfl,by decide,by decide,rfl,rfl,rfl,rfl,rfl,h⟩

def gathU (l:List CallZ):List InsZ:=l.foldl (fun out c=>out++gathI out.length c) []
def gathP (l:List CallZ):List InsZ:=gathU l++[⟨0,0,0,0,0⟩]
def gFit (c:CallZ):Prop:=gFitB c.w c.n=true

theorem gathU_snoc (l:List CallZ) (c:CallZ):gathU (l++[c])=gathU l++gathI (gathU l).length c:=by
 rw [gathU,List.foldl_append]
 rfl

theorem gathU_take (l:List CallZ) (i:Nat) (c:CallZ) (h:l[i]? = some c):gathU (l.take (i+1))=gathU (l.take i)++gathI (gathU (l.take i)).length c:=by
 rw [List.take_add_one,h]
 exact gathU_snoc _ _

theorem gathU_len (l:List CallZ):∀ i,(gathU (l.take i)).length≤39*i
 | 0=>by simp [gathU]
 | i+1=>by
   have ih:=gathU_len l i
   cases h:l[i]? with
   | none =>
     have:l.take (i+1)=l.take i:=by rw [List.take_add_one,h];simp
     rw [this];omega
   | some c =>
     rw [gathU_take l i c h,List.length_append]
     have:=gathI_len (gathU (l.take i)).length c
     omega

end
end
section
section

variable {K:KP}

def gO (w:Int):Bool:=decide (9223372036854775808≤w)
def gPh (w:Int):Int:=w / 4294967296 % 2147483648
def gPa (w:Int):Int:=w / 65536 % 65536
def gWa (w:Int):Int:=w % 65536

theorem gPhEq (w:Int) (hw:0≤w∧w<18446744073709551616):IntKind.i64.wrap (IntKind.u64.wrap ↑(BitVec.ofInt IntKind.u64.bits (w.fdiv (2 ^ min (Int.toNat 32) IntKind.u64.bits)) &&& BitVec.ofInt IntKind.u64.bits 2147483647).toNat)=gPh w:=by
 have e1:(2:Int) ^ min (Int.toNat 32) IntKind.u64.bits=4294967296:=rfl
 have e3:IntKind.u64.bits=64:=rfl
 have e4:w.fdiv 4294967296=w / 4294967296:=Int.fdiv_eq_ediv_of_nonneg _ (by omega)
 rw [e1,e3,e4,and_z 31 _ 2147483647 (by omega) (by omega) (by omega) (by omega),wrap_u64 _ (by omega) (by omega),wrap_i64 _ (by omega) (by omega)]
 rfl

theorem gPaEq (w:Int) (hw:0≤w∧w<18446744073709551616):IntKind.i64.wrap (IntKind.u64.wrap ↑(BitVec.ofInt IntKind.u64.bits (w.fdiv (2 ^ min (Int.toNat 16) IntKind.u64.bits)) &&& BitVec.ofInt IntKind.u64.bits 65535).toNat)=gPa w:=by
 have e1:(2:Int) ^ min (Int.toNat 16) IntKind.u64.bits=65536:=rfl
 have e3:IntKind.u64.bits=64:=rfl
 have e4:w.fdiv 65536=w / 65536:=Int.fdiv_eq_ediv_of_nonneg _ (by omega)
 rw [e1,e3,e4,and_z 16 _ 65535 (by omega) (by omega) (by omega) (by omega),wrap_u64 _ (by omega) (by omega),wrap_i64 _ (by omega) (by omega)]
 rfl

theorem gWaEq (w:Int) (hw:0≤w∧w<18446744073709551616):IntKind.i64.wrap (IntKind.u64.wrap ↑(BitVec.ofInt IntKind.u64.bits w &&& BitVec.ofInt IntKind.u64.bits 65535).toNat)=gWa w:=by
 have e3:IntKind.u64.bits=64:=rfl
 rw [e3,and_z 16 _ 65535 (by omega) (by omega) (by omega) (by omega),wrap_u64 _ (by omega) (by omega),wrap_i64 _ (by omega) (by omega)]
 rfl

theorem gOEq (w:Int) (hw:0≤w∧w<18446744073709551616):(w.fdiv (2 ^ min (Int.toNat 63) IntKind.u64.bits) == 1)=gO w:=by
 have e1:(2:Int) ^ min (Int.toNat 63) IntKind.u64.bits=9223372036854775808:=rfl
 have e4:w.fdiv 9223372036854775808=w / 9223372036854775808:=Int.fdiv_eq_ediv_of_nonneg _ (by omega)
 rw [e1,e4,Bool.eq_iff_iff]
 simp only [gO,decide_eq_true_eq,beq_iff_eq]
 omega

theorem gOfIs (w:Int) (hw:0≤w∧w<18446744073709551616) (h0:pkRightB (gPh w) (gPa w) (gWa w)=false→K (.tup [pkPhaseC false 0 0 0,pkErrC 3]) [] [])
  (h1:pkRightB (gPh w) (gPa w) (gWa w)=true→K (.tup [pkPhaseC (gO w) (gPh w) (gPa w) (gWa w),pkOkC]) [] []):Does Tryz.prog 142 [u64 w] [] K:=by
 refine does Tryz.func142 rfl (by decide) ?_
 change Does Tryz.prog 182 _ _ _
 refine Does.alone 2 (pkRight _ _ _ _ ?_)
 rw [gPhEq w hw,gPaEq w hw,gWaEq w hw,gOEq w hw]
 refine bZ (fun h=>?_) (fun h=>?_)
 · exact h0 (by simpa using h)
 · exact h1 (by simpa using h)

end
end
section
def badAt (fit:CallZ→Bool):Nat→List CallZ→Option Nat
 | _,[]=>none
 | i,c::l=>if fit c=true then badAt fit (i+1) l else some i

theorem badAt_hit {fit:CallZ→Bool} {c:CallZ} (hc:fit c=false):∀ {l:List CallZ} {i:Nat} (k:Nat),(∀ (j:Nat) (x:CallZ),j<i→l[j]? = some x→fit x=true)→l[i]? = some c→badAt fit k l=some (k+i)
 | [],i,k,_,h=>by simp at h
 | y::l,0,k,_,h=>by
   obtain rfl:=Option.some.inj (show some y=some c from h)
   rw [badAt,if_neg (by rw [hc];decide)]
   rfl
 | y::l,i+1,k,hb,h=>by
   rw [badAt,if_pos (hb 0 y (by omega) rfl),badAt_hit hc (k+1) (fun j x hj hx=>hb (j+1) x (by omega) hx) h]
   congr 1
   omega

theorem badAt_none {fit:CallZ→Bool}:∀ {l:List CallZ} (k:Nat),(∀ c∈l,fit c=true)→badAt fit k l=none
 | [],_,_=>rfl
 | y::l,k,h=>by rw [badAt,if_pos (h y (by simp)),badAt_none (k+1) fun c hc=>h c (by simp [hc])]

def codeOf (fit:CallZ→Bool) (prog:List CallZ→List InsZ) (l:List CallZ):Except EZ (List InsZ) :=
 if 12<l.length then .error (.no 4) else match badAt fit 0 l with
  | some i=>.error (.pl 1 i)
  | none=>.ok (prog l)

def gatherV (l:List CallZ):Except EZ (List InsZ):=codeOf (fun c=>gFitB c.w c.n) gathP l

section

variable {K:KP} {J:KJ}

theorem gCodeAll {ro:Bool} {l:List CallZ} (_hlb:l.length≤1000000001) (h:∀ p,gatherV l=.ok p→K (.tup [.c (.slc 1 0 p.length none false),okP]) [] [.rows ro 2 (l.map rowCallZ),.rows false 5 (p.map rowIns)])
  (h1:∀ e,gatherV l=.error (.no e)→K (.tup [.c .nilslc,.c (eno e)]) [] [.rows ro 2 (l.map rowCallZ)])
  (h2:∀ e p,gatherV l=.error (.pl e p)→K (.tup [.c .nilslc,.c (.iface 108 (.ptr 1 0))]) [] [.rows ro 2 (l.map rowCallZ),.one [.f (.int .i64 e),.f (.int .i64 p)]]) :
  Does Tryz.prog 130 [cv (.slc 0 0 l.length none false)] [.rows ro 2 (l.map rowCallZ)] K:=by
 refine Does.keep 1 rfl ?_
 refine does Tryz.func130 rfl (by decide) ?_
 refine bZ (fun hlt=>?_) (fun hlt=>?_)
 · have hlt:(l.length:Int) > 12:=oTr hlt
   exact ⟨1,[0],_,_,rfl,rfl,by decide,by decide,rfl,rfl,rfl,rfl,rfl,h1 4 (by rw [gatherV,codeOf,if_pos (by omega)])⟩
 have hl:¬ 12<l.length:=by
  have hlt:¬(l.length:Int) > 12:=oFa hlt
  omega
 refine SS.nil 4 5 (by decide) rfl ?_
 refine SS.loop (fun i:Nat=>i≤l.length∧∀ (j:Nat) (x:CallZ),j<i→l[j]? = some x→gFitB x.w x.n=true) (fun i=>[(4,cv (.slc 1 0 (gathU (l.take i)).length none false)),(11,cv (.slc 0 0 l.length none false)),(12,i64 l.length),(13,i64 i)]) (fun i=>[.rows ro 2 (l.map rowCallZ),.rows false 5 ((gathU (l.take i)).map rowIns)]) (fun i=>l.length-i) [1]
  (At.mk' [4,11,12,13] 0 ⟨by simp,fun j x hj=>absurd hj (by omega)⟩ ⟨rfl,rfl⟩ rfl rfl (by simp) (by simp) (by simp)) ?_
 rintro i ⟨hi,hfit⟩
 change i≤l.length at hi
 have hul:=gathU_len l i
 refine S_r ?_
 refine bZ (fun hlt=>?_) (fun hlt=>?_)
 · have hlt:i<l.length:=by
    have:=oTr hlt
    have:(i:Int)<(l.length:Int):=this
    omega
   obtain ⟨c,hc⟩ : ∃ c,l[i]? = some c:=⟨_,List.getElem?_eq_getElem hlt⟩
   have hu:=gathU_take l i c hc
   refine SS.inlR ?_
   refine at2 (a:=(0:Int)≤(i:Int)) (b:=(i:Int)<(l.length:Int)) (by omega) (by omega) (rdA (rowCallZ c) (show (l.map rowCallZ)[0+Int.toNat (i:Int)]? = some (rowCallZ c) by simp [hc]) ?_)
   change Does Tryz.prog 183 _ _ _
   refine Does.alone 3 (gFits c.w c.n ?_)
   cases hfc:gFitB c.w c.n with
   | false =>
     have hv:gatherV l=.error (.pl 1 i):=by
      rw [gatherV,codeOf,if_neg hl,badAt_hit (fit:=fun c=>gFitB c.w c.n) (c:=c) hfc 0 hfit hc,Nat.zero_add]
     exact ⟨4,[0,3],[.rows ro 2 (l.map rowCallZ),.one [.f (.int .i64 1),.f (.int .i64 i)]],.tup [.c .nilslc,.c (.iface 108 (.ptr 1 0))],rfl,rfl,by decide,by decide,rfl,rfl,rfl,rfl,rfl,h2 1 i hv⟩
   | true =>
   change Does Tryz.prog 184 _ _ _
   refine Does.alone 3 (gOne (gathU (l.take i)).length (by omega) c hfc ?_)
   have hol:=gathI_len (gathU (l.take i)).length c
   generalize ho:gathI (gathU (l.take i)).length c=o at *
   have e:List.take o.length (List.drop 0 (o.map rowIns))=o.map rowIns:=by rw [List.drop_zero,List.take_of_length_le (by simp)]
   have e2:(o.map rowIns).length=o.length:=by simp
   refine And.intro (by simp) (Or.inl (And.intro rfl (And.intro (by simp) (And.intro ?_ (And.intro ?_ ?_)))))
   · rw [e,e2]
     show ((gathU (l.take i)).length+o.length)*40≤_
     omega
   · rw [e,e2]
     omega
   · rw [e,e2]
     refine At.mk' [4,11,12,13] (i+1) ⟨⟨by show i+1≤l.length;omega,fun j x hj hx=>?_⟩,by omega⟩ ⟨?_,rfl⟩ ?_ rfl (by simp) (by simp) (by decide)
     · rcases Nat.lt_or_ge j i with hji | hji
       · exact hfit j x hji hx
       · obtain rfl:j=i:=by omega
         rw [hc] at hx
         obtain rfl:=Option.some.inj hx
         exact hfc
     · rw [wrap_i64 (i+1) (by omega) (by omega),hu,List.length_append]
       rfl
     · rw [hu,List.map_append]
       rfl
 · have hlt:¬(i:Int)<(l.length:Int):=oFa hlt
   obtain rfl:i=l.length:=by omega
   rw [List.take_length] at hul ⊢
   have hv:gatherV l=.ok (gathP l):=by
    rw [gatherV,codeOf,if_neg hl,badAt_none 0 fun c hc=>by
     obtain ⟨j,hj,rfl⟩:=List.mem_iff_getElem.1 hc
     exact hfit j _ hj (List.getElem?_eq_getElem hj)]
   have h:=h _ hv
   refine And.intro (by decide) (Or.inl (And.intro rfl (And.intro (by simp) (And.intro ?_ (And.intro ?_ ?_)))))
   · show ((gathU l).length+1)*40≤_
     omega
   · show (gathU l).length+1≤_
     omega
   · rw [gathP,List.length_append,List.map_append] at h
     exact ⟨3,[0,1],[.rows ro 2 (l.map rowCallZ),.rows false 5 ((gathU l).map rowIns++[rowIns ⟨0,0,0,0,0⟩])],.tup [.c (.slc 1 0 ((gathU l).length+1) none false),okP],rfl,rfl,by decide,by decide,rfl,rfl,rfl,rfl,rfl,h⟩

theorem alikeX {f:FuncId} {cls:List (List CallZ)} {codeV:List CallZ→Except EZ (List InsZ)} (hcl:∀ l∈cls,l.length≤1000000001)
  (hf:∀ (l:List CallZ),l.length≤1000000001→∀ K:KP,(∀ p,codeV l=.ok p→K (.tup [.c (.slc 1 0 p.length none false),okP]) [] [.rows true 2 (l.map rowCallZ),.rows false 5 (p.map rowIns)]) →
    (∀ e,codeV l=.error (.no e)→K (.tup [.c .nilslc,.c (eno e)]) [] [.rows true 2 (l.map rowCallZ)]) →
    (∀ e p,codeV l=.error (.pl e p)→K (.tup [.c .nilslc,.c (.iface 108 (.ptr 1 0))]) [] [.rows true 2 (l.map rowCallZ),.one [.f (.int .i64 e),.f (.int .i64 p)]])→Does Tryz.prog f [cv (.slc 0 0 l.length none false)] [.rows true 2 (l.map rowCallZ)] K) :
  CodeX 175 [17] (bxH f) cls fun _ l=>codeV l:=by
 intro i l hl K h h1 h2
 refine Does.row2 (l.map rowCallZ) (by simp [hl]) (by simp) ?_
 refine does Tryz.func175 rfl (by decide) ?_
 change Does Tryz.prog f _ _ _
 refine Does.on 2 [0] _ _ (hf l (hcl l (List.mem_of_getElem? hl)) _ (fun p hp=>?_) (fun e he=>?_) fun e p he=>?_)
 · exact ⟨rfl,h p hp⟩
 · exact ⟨rfl,h1 e he⟩
 · exact ⟨rfl,h2 e p he⟩

theorem alike {f:FuncId} (h:K (cv (.func 175 [0])) [] [bxH f]):Does Tryz.prog 124 [cv (.func f [])] [] K:=by
 refine does Tryz.func124 rfl (by decide) ?_
 exact h

end
end
section
def latchIns (p:Int) (c:CallZ):List InsZ :=
 if c.w=2 then [⟨6,1,0,0,0⟩,⟨11,1,0,p+4,0⟩,⟨14,0,1,0,0⟩,⟨10,p,0,0,0⟩,⟨16,3,1,0,0⟩]
 else [⟨6,1,0,0,0⟩,⟨11,1,0,p+9,0⟩,⟨3,2,1,-1,0⟩,⟨9,3,0,1,2⟩,⟨11,3,0,p,0⟩,⟨2,1,2,0,0⟩,⟨11,2,0,p+8,0⟩,⟨10,p+9,0,0,0⟩,⟨15,0,16,-1,0⟩,⟨16,3,1,0,0⟩]

theorem latchIns_len (p:Int) (c:CallZ):(latchIns p c).length≤10:=by
 rw [latchIns]
 split <;> exact Nat.le_of_ble_eq_true rfl

section

variable {K:KP}

theorem latchIns' (p:Int) (hp:0≤p∧p≤1000000) (c:CallZ) (h:K (cv (.slc 0 0 (latchIns p c).length none true)) [] [.rows false 5 ((latchIns p c).map rowIns)]):Does Tryz.prog 177 [i64 p,.p (.agg [.f (.int .i64 c.w),.f (.int .i64 c.n)])] [] K:=by
 refine Does.keep 0 rfl ?_
 refine does Tryz.func177 rfl (by decide) ?_
 refine bZ (fun hc=>?_) (fun hc=>?_)
 · rw [latchIns,if_pos (beq_iff_eq.1 hc),←wrap_i64 (p+4) (by omega) (by omega)] at h
   exact ⟨2,[1],_,cv (.slc 0 0 5 none true),rfl,rfl,by decide,by decide,rfl,rfl,rfl,rfl,rfl,h⟩
 · rw [latchIns,if_neg (beq_eq_false_iff_ne.1 hc),←wrap_i64 (p+9) (by omega) (by omega),←wrap_i64 (p+8) (by omega) (by omega)] at h
   exact ⟨2,[1],_,cv (.slc 0 0 10 none true),rfl,rfl,by decide,by decide,rfl,rfl,rfl,rfl,rfl,h⟩

end
end
section
def semaIns (p:Int) (c:CallZ):List InsZ :=
 if c.w=4 then [⟨8,1,0,1,0⟩,⟨3,2,1,1,0⟩,⟨15,0,1,-1,0⟩,⟨16,3,2,0,0⟩]
 else [⟨6,1,0,0,0⟩,⟨11,1,0,p+6,0⟩,⟨3,2,1,-1,0⟩,⟨9,3,0,1,2⟩,⟨11,3,0,p,0⟩,⟨10,p+8,0,0,0⟩,⟨14,0,1,0,0⟩,⟨10,p,0,0,0⟩,⟨16,3,2,0,0⟩]

theorem semaIns_len (p:Int) (c:CallZ):(semaIns p c).length≤9:=by
 rw [semaIns]
 split <;> exact Nat.le_of_ble_eq_true rfl

section

variable {K:KP}

theorem semaIns' (p:Int) (hp:0≤p∧p≤1000000) (c:CallZ) (h:K (cv (.slc 0 0 (semaIns p c).length none true)) [] [.rows false 5 ((semaIns p c).map rowIns)]):Does Tryz.prog 193 [i64 p,.p (.agg [.f (.int .i64 c.w),.f (.int .i64 c.n)])] [] K:=by
 refine Does.keep 0 rfl ?_
 refine does Tryz.func193 rfl (by decide) ?_
 refine bZ (fun hc=>?_) (fun hc=>?_)
 · rw [semaIns,if_pos (beq_iff_eq.1 hc)] at h
   exact ⟨2,[1],_,cv (.slc 0 0 4 none true),rfl,rfl,by decide,by decide,rfl,rfl,rfl,rfl,rfl,h⟩
 · rw [semaIns,if_neg (beq_eq_false_iff_ne.1 hc),←wrap_i64 (p+6) (by omega) (by omega),←wrap_i64 (p+8) (by omega) (by omega)] at h
   exact ⟨2,[1],_,cv (.slc 0 0 9 none true),rfl,rfl,by decide,by decide,rfl,rfl,rfl,rfl,rfl,h⟩

end
end
section
def mutexIns (p:Int) (c:CallZ):List InsZ :=
 if c.w=13 then [⟨1,5,0,0,0⟩,⟨6,1,0,0,0⟩,⟨9,3,0,1,5⟩,⟨11,3,0,p+1,0⟩,⟨11,1,2,p+6,0⟩,⟨10,p+7,0,0,0⟩,⟨15,0,1,-1,0⟩,⟨16,3,1,0,0⟩]
 else [⟨1,5,0,0,0⟩,⟨1,6,1,0,0⟩,⟨1,4,2,0,0⟩,⟨9,3,0,5,6⟩,⟨11,3,1,p+14,0⟩,⟨6,1,0,0,0⟩,⟨11,1,0,p+12,0⟩,⟨11,1,2,p+10,0⟩,⟨9,3,0,6,4⟩,⟨11,3,0,p+5,0⟩,⟨14,0,4,0,0⟩,⟨10,p+5,0,0,0⟩,
  ⟨9,3,0,5,4⟩,⟨11,3,0,p+5,0⟩,⟨16,3,5,0,0⟩]

section

variable {K:KP}

theorem mutexIns' (p:Int) (hp:0≤p∧p≤1000000) (c:CallZ) (h:K (cv (.slc 0 0 (mutexIns p c).length none true)) [] [.rows false 5 ((mutexIns p c).map rowIns)]):Does Tryz.prog 179 [i64 p,.p (.agg [.f (.int .i64 c.w),.f (.int .i64 c.n)])] [] K:=by
 refine Does.keep 0 rfl ?_
 refine does Tryz.func179 rfl (by decide) ?_
 refine bZ (fun hc=>?_) (fun hc=>?_)
 · rw [mutexIns,if_pos (beq_iff_eq.1 hc),←wrap_i64 (p+1) (by omega) (by omega),←wrap_i64 (p+6) (by omega) (by omega),←wrap_i64 (p+7) (by omega) (by omega)] at h
   exact ⟨2,[1],_,cv (.slc 0 0 8 none true),rfl,rfl,by decide,by decide,rfl,rfl,rfl,rfl,rfl,h⟩
 · rw [mutexIns,if_neg (beq_eq_false_iff_ne.1 hc),←wrap_i64 (p+14) (by omega) (by omega),←wrap_i64 (p+12) (by omega) (by omega),←wrap_i64 (p+10) (by omega) (by omega),←wrap_i64 (p+5) (by omega) (by omega)] at h
   exact ⟨2,[1],_,cv (.slc 0 0 15 none true),rfl,rfl,by decide,by decide,rfl,rfl,rfl,rfl,rfl,h⟩

end
end
section
def ticketIns (p:Int) (c:CallZ):List InsZ :=
 if c.w=13 then [⟨8,1,1,1,0⟩,⟨15,1,16,-1,0⟩,⟨16,3,1,0,0⟩]
 else [⟨8,1,0,1,0⟩,⟨6,2,1,0,0⟩,⟨13,2,1,p+5,0⟩,⟨14,1,2,0,0⟩,⟨10,p+1,0,0,0⟩,⟨16,3,1,0,0⟩]

theorem ticketIns_len (p:Int) (c:CallZ):(ticketIns p c).length≤9:=by
 rw [ticketIns]
 split <;> exact Nat.le_of_ble_eq_true rfl

section

variable {K:KP}

theorem ticketIns' (p:Int) (hp:0≤p∧p≤1000000) (c:CallZ) (h:K (cv (.slc 0 0 (ticketIns p c).length none true)) [] [.rows false 5 ((ticketIns p c).map rowIns)]):Does Tryz.prog 197 [i64 p,.p (.agg [.f (.int .i64 c.w),.f (.int .i64 c.n)])] [] K:=by
 refine Does.keep 0 rfl ?_
 refine does Tryz.func197 rfl (by decide) ?_
 refine bZ (fun hc=>?_) (fun hc=>?_)
 · rw [ticketIns,if_pos (beq_iff_eq.1 hc)] at h
   exact ⟨2,[1],_,cv (.slc 0 0 3 none true),rfl,rfl,by decide,by decide,rfl,rfl,rfl,rfl,rfl,h⟩
 · rw [ticketIns,if_neg (beq_eq_false_iff_ne.1 hc),←wrap_i64 (p+5) (by omega) (by omega),←wrap_i64 (p+1) (by omega) (by omega)] at h
   exact ⟨2,[1],_,cv (.slc 0 0 6 none true),rfl,rfl,by decide,by decide,rfl,rfl,rfl,rfl,rfl,h⟩

end
end
section
def rwIns (p:Int) (c:CallZ):List InsZ :=
 if c.w=14 then [⟨6,1,0,0,0⟩,⟨5,2,1,32,1⟩,⟨11,2,1,p+7,0⟩,⟨3,4,1,1,0⟩,⟨9,3,0,1,4⟩,⟨11,3,0,p,0⟩,⟨10,p+9,0,0,0⟩,⟨14,0,1,0,0⟩,⟨10,p,0,0,0⟩,⟨16,3,4,0,0⟩]
 else if c.w=15 then [⟨8,1,0,-1,0⟩,⟨3,1,1,-1,0⟩,⟨15,0,16,-1,0⟩,⟨16,3,1,0,0⟩]
 else if c.w=16 then [⟨6,1,0,0,0⟩,⟨11,1,0,p+4,0⟩,⟨14,0,1,0,0⟩,⟨10,p,0,0,0⟩,⟨1,4,4294967296,0,0⟩,⟨9,3,0,1,4⟩,⟨11,3,0,p,0⟩,⟨16,3,1,0,0⟩]
 else [⟨1,1,0,0,0⟩,⟨7,0,1,-1,0⟩,⟨15,0,16,-1,0⟩,⟨16,3,1,0,0⟩]

theorem rwIns_len (p:Int) (c:CallZ):(rwIns p c).length≤10:=by
 rw [rwIns]
 repeat' split
 all_goals exact Nat.le_of_ble_eq_true rfl

section

variable {K:KP}

theorem rwIns' (p:Int) (hp:0≤p∧p≤1000000) (c:CallZ) (h:K (cv (.slc 0 0 (rwIns p c).length none true)) [] [.rows false 5 ((rwIns p c).map rowIns)]):Does Tryz.prog 191 [i64 p,.p (.agg [.f (.int .i64 c.w),.f (.int .i64 c.n)])] [] K:=by
 refine Does.keep 0 rfl ?_
 refine does Tryz.func191 rfl (by decide) ?_
 refine bZ (fun hc=>?_) (fun hc=>?_)
 · rw [rwIns,if_pos (beq_iff_eq.1 hc),←wrap_i64 (p+7) (by omega) (by omega),←wrap_i64 (p+9) (by omega) (by omega)] at h
   exact ⟨2,[1],_,cv (.slc 0 0 10 none true),rfl,rfl,by decide,by decide,rfl,rfl,rfl,rfl,rfl,h⟩
 rw [rwIns,if_neg (beq_eq_false_iff_ne.1 hc)] at h
 refine bZ (fun hc=>?_) (fun hc=>?_)
 · rw [if_pos (beq_iff_eq.1 hc)] at h
   exact ⟨2,[1],_,cv (.slc 0 0 4 none true),rfl,rfl,by decide,by decide,rfl,rfl,rfl,rfl,rfl,h⟩
 rw [if_neg (beq_eq_false_iff_ne.1 hc)] at h
 refine bZ (fun hc=>?_) (fun hc=>?_)
 · rw [if_pos (beq_iff_eq.1 hc),←wrap_i64 (p+4) (by omega) (by omega)] at h
   exact ⟨2,[1],_,cv (.slc 0 0 8 none true),rfl,rfl,by decide,by decide,rfl,rfl,rfl,rfl,rfl,h⟩
 rw [if_neg (beq_eq_false_iff_ne.1 hc)] at h
 exact ⟨2,[1],_,cv (.slc 0 0 4 none true),rfl,rfl,by decide,by decide,rfl,rfl,rfl,rfl,rfl,h⟩

end
end
section
def onceIns (p:Int) (_c:CallZ):List InsZ :=
 [⟨1,5,0,0,0⟩,⟨1,6,1,0,0⟩,⟨1,4,2,0,0⟩,⟨9,3,0,5,6⟩,⟨11,3,0,p+9,0⟩,⟨8,1,1,1,0⟩,⟨7,0,4,-1,0⟩,⟨15,0,16,-1,0⟩,⟨10,p+13,0,0,0⟩,⟨6,1,0,0,0⟩,⟨13,1,4,p+13,0⟩,⟨14,0,1,0,0⟩,⟨10,p+9,0,0,0⟩,⟨16,3,3,0,0⟩]

theorem onceIns_len (p:Int) (c:CallZ):(onceIns p c).length≤14:=by
 rw [onceIns]
 exact Nat.le_of_ble_eq_true rfl

section

variable {K:KP}

set_option maxHeartbeats 1000000 in
theorem onceIns' (p:Int) (hp:0≤p∧p≤1000000) (c:CallZ) (h:K (cv (.slc 0 0 (onceIns p c).length none true)) [] [.rows false 5 ((onceIns p c).map rowIns)]):Does Tryz.prog 181 [i64 p,.p (.agg [.f (.int .i64 c.w),.f (.int .i64 c.n)])] [] K:=by
 refine Does.keep 0 rfl ?_
 refine does Tryz.func181 rfl (by decide) ?_
 rw [onceIns,←wrap_i64 (p+9) (by omega) (by omega),←wrap_i64 (p+13) (by omega) (by omega)] at h
 exact ⟨2,[1],_,cv (.slc 0 0 14 none true),rfl,rfl,by decide,by decide,rfl,rfl,rfl,rfl,rfl,h⟩

end
end
section
def insU (ins:Int→CallZ→List InsZ) (l:List CallZ):List InsZ:=l.foldl (fun out c=>out++ins out.length c) []

theorem insU_take (ins:Int→CallZ→List InsZ) (l:List CallZ) (i:Nat) (c:CallZ) (h:l[i]? = some c):insU ins (l.take (i+1))=insU ins (l.take i)++ins (insU ins (l.take i)).length c:=by
 rw [insU,List.take_add_one,h,List.foldl_append]
 rfl

theorem insU_len {ins:Int→CallZ→List InsZ} (hl:∀ p c,(ins p c).length≤40) (l:List CallZ):∀ i,(insU ins (l.take i)).length≤40*i
 | 0=>by simp [insU]
 | i+1=>by
   have ih:=insU_len hl l i
   cases h:l[i]? with
   | none =>
     have:l.take (i+1)=l.take i:=by rw [List.take_add_one,h];simp
     rw [this];omega
   | some c =>
     rw [insU_take ins l i c h,List.length_append]
     have:=hl (insU ins (l.take i)).length c
     omega

def codeG (fit:CallZ→Bool) (ins:Int→CallZ→List InsZ) (l:List CallZ):Except EZ (List InsZ):=codeOf fit (fun l=>insU ins l++[⟨0,0,0,0,0⟩]) l

abbrev callA (c:CallZ):AV:=.p (.agg [.f (.int .i64 c.w),.f (.int .i64 c.n)])

section

variable {K:KP}

theorem codeAll {f ft on:FuncId} {fit:CallZ→Bool} {ins:Int→CallZ→List InsZ}
  (hf:(f=125∧ft=176∧on=177)∨(f=140∧ft=192∧on=193)∨(f=126∧ft=178∧on=179)∨(f=145∧ft=196∧on=197)∨(f=139∧ft=190∧on=191)∨(f=127∧ft=180∧on=181))
  (hft:∀ (c:CallZ) (K:KP),K (bl (fit c)) [] []→Does Tryz.prog ft [callA c] [] K)
  (hon:∀ (p:Int) (c:CallZ) (K:KP),0≤p∧p≤1000000→K (cv (.slc 0 0 (ins p c).length none true)) [] [.rows false 5 ((ins p c).map rowIns)]→Does Tryz.prog on [i64 p,callA c] [] K)
  (hil:∀ p c,(ins p c).length≤40) {l:List CallZ} (_hlb:l.length≤1000000001)
  (h:∀ p,codeG fit ins l=.ok p→K (.tup [.c (.slc 1 0 p.length none false),okP]) [] [.rows true 2 (l.map rowCallZ),.rows false 5 (p.map rowIns)])
  (h1:∀ e,codeG fit ins l=.error (.no e)→K (.tup [.c .nilslc,.c (eno e)]) [] [.rows true 2 (l.map rowCallZ)])
  (h2:∀ e p,codeG fit ins l=.error (.pl e p)→K (.tup [.c .nilslc,.c (.iface 108 (.ptr 1 0))]) [] [.rows true 2 (l.map rowCallZ),.one [.f (.int .i64 e),.f (.int .i64 p)]]) :
  Does Tryz.prog f [cv (.slc 0 0 l.length none false)] [.rows true 2 (l.map rowCallZ)] K:=by
 refine Does.keep 1 rfl ?_
 rcases hf with ⟨rfl,rfl,rfl⟩ | ⟨rfl,rfl,rfl⟩ | ⟨rfl,rfl,rfl⟩ | ⟨rfl,rfl,rfl⟩ | ⟨rfl,rfl,rfl⟩ | ⟨rfl,rfl,rfl⟩ <;> (
  first
   | refine does Tryz.func125 rfl (by decide) ?_
   | refine does Tryz.func140 rfl (by decide) ?_
   | refine does Tryz.func126 rfl (by decide) ?_
   | refine does Tryz.func145 rfl (by decide) ?_
   | refine does Tryz.func139 rfl (by decide) ?_
   | refine does Tryz.func127 rfl (by decide) ?_
  refine bZ (fun hlt=>?_) (fun hlt=>?_)
  · have hlt:(l.length:Int) > 12:=oTr hlt
    exact ⟨1,[0],_,_,rfl,rfl,by decide,by decide,rfl,rfl,rfl,rfl,rfl,h1 4 (by rw [codeG,codeOf,if_pos (by omega)])⟩
  have hl:¬ 12<l.length:=by
   have hlt:¬(l.length:Int) > 12:=oFa hlt
   omega
  refine SS.nil 4 5 (by decide) rfl ?_
  refine SS.loop (fun i:Nat=>i≤l.length∧∀ (j:Nat) (x:CallZ),j<i→l[j]? = some x→fit x=true) (fun i=>[(4,cv (.slc 1 0 (insU ins (l.take i)).length none false)),(11,cv (.slc 0 0 l.length none false)),(12,i64 l.length),(13,i64 i)]) (fun i=>[.rows true 2 (l.map rowCallZ),.rows false 5 ((insU ins (l.take i)).map rowIns)]) (fun i=>l.length-i) [1]
   (At.mk' [4,11,12,13] 0 ⟨by simp,fun j x hj=>absurd hj (by omega)⟩ ⟨rfl,rfl⟩ rfl rfl (by simp) (by simp) (by simp)) ?_
  rintro i ⟨hi,hfit⟩
  change i≤l.length at hi
  have hul:=insU_len hil l i
  refine S_r ?_
  refine bZ (fun hlt=>?_) (fun hlt=>?_)
  · have hlt:i<l.length:=by
     have:=oTr hlt
     have:(i:Int)<(l.length:Int):=this
     omega
    obtain ⟨c,hc⟩ : ∃ c,l[i]? = some c:=⟨_,List.getElem?_eq_getElem hlt⟩
    have hu:=insU_take ins l i c hc
    refine SS.inlR ?_
    refine at2 (a:=(0:Int)≤(i:Int)) (b:=(i:Int)<(l.length:Int)) (by omega) (by omega) (rdA (rowCallZ c) (show (l.map rowCallZ)[0+Int.toNat (i:Int)]? = some (rowCallZ c) by simp [hc]) ?_)
    refine Does.alone (f:=_) (args:=[callA c]) 3 (hft c _ ?_)
    cases hfc:fit c with
    | false =>
      have hv:codeG fit ins l=.error (.pl 1 i):=by
       rw [codeG,codeOf,if_neg hl,badAt_hit (fit:=fit) (c:=c) hfc 0 hfit hc,Nat.zero_add]
      exact ⟨4,[0,3],[.rows true 2 (l.map rowCallZ),.one [.f (.int .i64 1),.f (.int .i64 i)]],.tup [.c .nilslc,.c (.iface 108 (.ptr 1 0))],rfl,rfl,by decide,by decide,rfl,rfl,rfl,rfl,rfl,h2 1 i hv⟩
    | true =>
    refine Does.alone (f:=_) (args:=[i64 (insU ins (l.take i)).length,callA c]) 3 (hon (insU ins (l.take i)).length c _ (by omega) ?_)
    have hol:=hil (insU ins (l.take i)).length c
    generalize ho:ins (insU ins (l.take i)).length c=o at *
    have e:List.take o.length (List.drop 0 (o.map rowIns))=o.map rowIns:=by rw [List.drop_zero,List.take_of_length_le (by simp)]
    have e2:(o.map rowIns).length=o.length:=by simp
    refine And.intro (by simp) (Or.inl (And.intro rfl (And.intro (by simp) (And.intro ?_ (And.intro ?_ ?_)))))
    · rw [e,e2]
      show ((insU ins (l.take i)).length+o.length)*40≤_
      omega
    · rw [e,e2]
      omega
    · rw [e,e2]
      refine At.mk' [4,11,12,13] (i+1) ⟨⟨by show i+1≤l.length;omega,fun j x hj hx=>?_⟩,by omega⟩ ⟨?_,rfl⟩ ?_ rfl (by simp) (by simp) (by decide)
      · rcases Nat.lt_or_ge j i with hji | hji
        · exact hfit j x hji hx
        · obtain rfl:j=i:=by omega
          rw [hc] at hx
          obtain rfl:=Option.some.inj hx
          exact hfc
      · rw [wrap_i64 (i+1) (by omega) (by omega),hu,List.length_append]
        rfl
      · rw [hu,List.map_append]
        rfl
  · have hlt:¬(i:Int)<(l.length:Int):=oFa hlt
    obtain rfl:i=l.length:=by omega
    rw [List.take_length] at hul ⊢
    have hv:codeG fit ins l=.ok (insU ins l++[⟨0,0,0,0,0⟩]):=by
     rw [codeG,codeOf,if_neg hl,badAt_none 0 fun c hc=>by
      obtain ⟨j,hj,rfl⟩:=List.mem_iff_getElem.1 hc
      exact hfit j _ hj (List.getElem?_eq_getElem hj)]
    have h:=h _ hv
    refine And.intro (by decide) (Or.inl (And.intro rfl (And.intro (by simp) (And.intro ?_ (And.intro ?_ ?_)))))
    · show ((insU ins l).length+1)*40≤_
      omega
    · show (insU ins l).length+1≤_
      omega
    · rw [List.length_append,List.map_append] at h
      exact ⟨3,[0,1],[.rows true 2 (l.map rowCallZ),.rows false 5 ((insU ins l).map rowIns++[rowIns ⟨0,0,0,0,0⟩])],.tup [.c (.slc 1 0 ((insU ins l).length+1) none false),okP],rfl,rfl,by decide,by decide,rfl,rfl,rfl,rfl,rfl,h⟩)

end
end
section
def catU:Nat→List (List InsZ)→List InsZ
 | _,[]=>[]
 | p,b::bs=>b.map (relI p)++catU (p+b.length) bs

def offB (bs:List (List InsZ)) (j:Nat):Nat:=((bs.take j).map List.length).sum

def catP (bs:List (List InsZ)):List InsZ:=catU 0 bs++[⟨0,0,0,0,0⟩]

theorem offB_cons (b:List InsZ) (bs:List (List InsZ)) (j:Nat):offB (b::bs) (j+1)=b.length+offB bs j:=by
 simp [offB]

theorem catU_len:∀ (p:Nat) (bs:List (List InsZ)),(catU p bs).length=offB bs bs.length
 | _,[]=>rfl
 | p,b::bs=>by
   rw [catU,List.length_append,List.length_map,catU_len,List.length_cons,offB_cons]

inductive Eff where
 | no
 | act (o x y:Int)
 | sleep
 | wake (n:Int)
 | say (a x:Int)

def shT (p:Nat) (x:ThZ):ThZ:={ x with pc:=p+x.pc }

structure GZ where
 j:Nat
 y:ThZ

def conc (bs:List (List InsZ)) (g:GZ):ThZ:=shT (offB bs g.j) g.y

structure Sys (n:Nat) (bs:Nat→List (List InsZ)) (gs:Nat→GZ) (v:Int) (m:MZ):Prop where
 wf:WF m
 ln:m.ts.length=n
 ps:∀ t,t<n→m.ps[t]? = some (catP (bs t))
 ws:m.ws=[v]
 ts:∀ t,t<n→m.ts[t]? = some (conc (bs t) (gs t))
end
end Go.Mac
end
