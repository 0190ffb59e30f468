/- Texts that belong together; the first of them:  -/
import Derived.Test.YtollgfhpcidkgaaGreatDoorA23
import Derived.Test.YtollgfhpcidkgaaGreatDoorA22

section
open Go Go.Proofs Go.Mac
set_option maxRecDepth 100000

namespace Go.Mac

section

variable {K:AV→List Nat→List PO→Prop} {k n R:Nat} {cs:List (Int×Nat)}

theorem dk_bound (hk:1≤k∧k≤6) (hn:1≤n∧n≤16) (hR:R≤6) (hcs:cs.length≤61):R*costK k n+4*n+4*cs.length<20000:=by
 have:=(cost_le hk hn).2
 have:R*costK k n≤6*costK k n:=Nat.mul_le_mul_right _ hR
 omega

abbrev tailT:List UInt8:=[32,116,114,117,101,32,102,97,108,115,101]

theorem dk_fin (hk:1≤k∧k≤6) (hn:1≤n∧n≤16) (hR:R≤6) (hcs:cs.length≤61) (hct:∀ c∈cs,c.2<100) :
   DQ k n R (R*costK k n+4*n+4*cs.length) (dkF k n R cs).m∧allG n (dkF k n R cs).m.el=R∧anyR (dkF k n R cs).m.el=R ∧
     ∃ w,finishD (dkD k n R cs cs.length)=(dkF k n R cs,.ok (numsZ [w]++tailT))∧(numsZ [w]).length≤500:=by
 have hq:=dk_dq (cs:=cs) hk hn hR hct cs.length
 obtain ⟨h1,h2,h3,h4,h5⟩:=hq.finish hk hn (dk_bound hk hn hR hcs)
 refine ⟨h1,h4,h5,IntKind.i64.wrap (((finish (dkD k n R cs cs.length).m).k:Int)-(dkD k n R cs cs.length).m.k),?_,nums_one_len (i64_bounds _)⟩
 rw [finishD,h2,h3,dkF]
 rfl

theorem line_at {i:Nat} {s:List UInt8} (h:(firstL k n R::(cs.map cmdS++[wFinish,wJudge]))[i]? = some s) :
   (i=0∧s=firstL k n R)∨(∃ j c,i=j+1∧cs[j]? = some c∧s=cmdS c)∨(i=cs.length+1∧s=wFinish)∨(i=cs.length+2∧s=wJudge):=by
 cases i with
 | zero=>exact .inl ⟨rfl,(Option.some.inj h).symm⟩
 | succ j =>
   rw [List.getElem?_cons_succ] at h
   right
   rcases Nat.lt_or_ge j cs.length with hj | hj
   · left
     rw [List.getElem?_append_left (by simpa using hj),List.getElem?_map] at h
     obtain ⟨c,hc,rfl⟩:=Option.map_eq_some_iff.1 h
     exact ⟨j,c,rfl,hc,rfl⟩
   · right
     rw [List.getElem?_append_right (by simpa using hj),List.length_map] at h
     obtain ⟨e,he⟩ : ∃ e,j=cs.length+e:=⟨j-cs.length,by omega⟩
     subst he
     rw [Nat.add_sub_cancel_left] at h
     match e,h with
     | 0,h=>exact .inl ⟨rfl,(Option.some.inj h).symm⟩
     | 1,h=>exact .inr ⟨rfl,(Option.some.inj h).symm⟩
     | e+2,h=>simp at h

theorem dk_line (hk:1≤k∧k≤6) (hn:1≤n∧n≤16) (hR:R≤6) (hcs:cs.length≤61) (hct:∀ c∈cs,c.2<100) {i:Nat} {s:List UInt8} (h:(firstL k n R::(cs.map cmdS++[wFinish,wJudge]))[i]? = some s) :
   (s.length≤1000000000→LineX (dkDs k n R cs i) s (dkDs k n R cs (i+1),dkO k n R cs i))∧(10:UInt8)∉s∧(10:UInt8)∉dkO k n R cs i∧s.length≤100∧(dkO k n R cs i).length≤1000∧(s=wJudge→i≤cs.length→hasPre (dkO k n R cs i) (wJudge++[32])=true):=by
 obtain ⟨f1,f2,f3,w,f4,f5⟩:=dk_fin hk hn hR hcs hct
 rcases line_at h with ⟨rfl,rfl⟩ | ⟨j,c,rfl,hc,rfl⟩ | ⟨rfl,rfl⟩ | ⟨rfl,rfl⟩
 · obtain ⟨h1,h2,h3,h4⟩:=first_ok hk hn hR
   have e:dkDs k n R cs (0+1) = ⟨danceM k n R,[],false⟩:=by rw [dkDs,if_pos (by omega)];rfl
   refine ⟨fun hl=>?_,h2,?_,h1,?_,fun hh=>absurd hh h3⟩
   · rw [e]
     exact h4 hl
   · show (10:UInt8)∉wBarrier++numsZ [(n:Int)]
     rw [List.mem_append]
     exact fun hc=>hc.elim (by decide) (nums_nl _)
   · show (wBarrier++numsZ [(n:Int)]).length≤1000
     have:=nums_one_len (x:=(n:Int)) (by omega)
     rw [List.length_append,show wBarrier.length=7 from rfl]
     omega
 · have hlt:=(List.getElem?_eq_some_iff.1 hc).1
   have ho:=dk_cmd hk hn hR hct hc
   have e1:dkDs k n R cs (j+1)=dkD k n R cs j:=by rw [dkDs,if_pos (by omega)]
   have e2:dkDs k n R cs (j+1+1)=dkD k n R cs (j+1):=by rw [dkDs,if_pos (by omega)]
   rw [e1,e2]
   exact ⟨ho.ln,ho.nll,ho.nl,cmd_len c (hct c (List.mem_of_getElem? hc)),ho.len,fun hh _=>ho.jd hh⟩
 · have e1:dkDs k n R cs (cs.length+1)=dkD k n R cs cs.length:=by rw [dkDs,if_pos (Nat.le_refl _)]
   have e2:dkDs k n R cs (cs.length+1+1)=dkF k n R cs:=by rw [dkDs,if_neg (by omega)]
   have e3:dkO k n R cs (cs.length+1)=(tellD wFinish (finishD (dkD k n R cs cs.length))).2:=by rw [dkO,if_neg (by omega),if_pos rfl]
   have e4:(dkF k n R cs,dkO k n R cs (cs.length+1))=tellD wFinish (finishD (dkD k n R cs cs.length)):=by rw [e3];rfl
   have hw:wordsF wFinish=[wFinish]:=words_join (ps:=[wFinish]) (by decide) (by decide)
   rw [e1,e2]
   refine ⟨fun hl=>?_,by decide,?_,by decide,?_,fun hh=>absurd hh (by decide)⟩
   · rw [e4]
     refine line_finish _ hl _ _ hw (saidFinish _ _) (fun t ht=>?_) fun e he=>?_
     · rw [f4] at ht
       cases ht
       rw [List.length_append,show tailT.length=11 from rfl]
       omega
     · rw [f4] at he
       cases he
   · rw [e3]
     refine tell_nl (by decide) fun t ht=>?_
     rw [f4] at ht
     cases ht
     rw [List.mem_append]
     exact fun hc=>hc.elim (nums_nl _) (by decide)
   · rw [e3,f4]
     show (wFinish++(numsZ [w]++tailT)).length≤1000
     rw [List.length_append,List.length_append,show tailT.length=11 from rfl,show wFinish.length=6 from rfl]
     omega
 · have e1:dkDs k n R cs (cs.length+2)=dkF k n R cs:=by rw [dkDs,if_neg (by omega)]
   have e2:dkDs k n R cs (cs.length+2+1)=dkF k n R cs:=by rw [dkDs,if_neg (by omega)]
   have e3:dkO k n R cs (cs.length+2)=(tellD wJudge (judgeD (dkF k n R cs))).2:=by rw [dkO,if_neg (by omega),if_neg (by omega)]
   have ho:=ok_judge (d:=dkF k n R cs) hn f1
   have e4:(dkF k n R cs,dkO k n R cs (cs.length+2))=tellD wJudge (judgeD (dkF k n R cs)):=by rw [e3];rfl
   rw [e1,e2,e4]
   refine ⟨ho.ln,by decide,?_,by decide,?_,fun _ hi=>absurd hi (by omega)⟩
   · rw [e3];exact ho.nl
   · rw [e3];exact ho.len

theorem dk_session (hk:1≤k∧k≤6) (hn:1≤n∧n≤16) (hR:R≤6) (hcs:cs.length≤61) (hct:∀ c∈cs,c.2<100)
   (h:∀ outs:List (List UInt8),outs.length=cs.length+3→(∀ o∈outs,(10:UInt8)∉o)→(txt outs).length≤1000000→(∀ o∈outs,o.length≤1000) →
     (∀ (i:Nat) (line:List UInt8),(firstL k n R::cs.map cmdS)[i]? = some line→line=wJudge→∃ o:List UInt8,outs[i]? = some o∧hasPre o (wJudge++[32])=true)→outs[cs.length+2]? = some (wJudge++numsZ [(R:Int),(R:Int)]) →
     (∃ o:List UInt8,outs[cs.length+1]? = some o∧hasSuf o tailT=true)→K (st (txt outs)) [] sysH) :
   Does Tryz.prog 10 [st (txt (firstL k n R::(cs.map cmdS++[wFinish,wJudge])))] sysH K:=by
 have hne:firstL k n R::(cs.map cmdS++[wFinish,wJudge])≠[]:=by simp
 have hall:=fun i s hi=>dk_line (i:=i) (s:=s) hk hn hR hcs hct hi
 have hmem:∀ p∈firstL k n R::(cs.map cmdS++[wFinish,wJudge]),(10:UInt8)∉p∧p.length≤100:=fun p hp=>by
   obtain ⟨i,hi⟩:=List.mem_iff_getElem?.1 hp
   exact ⟨(hall i p hi).2.1,(hall i p hi).2.2.2.1⟩
 have hlen:(firstL k n R::(cs.map cmdS++[wFinish,wJudge])).length=cs.length+3:=by simp
 have hT:=txt_len (fun p hp=>(hmem p hp).2)
 rw [hlen] at hT
 have hget:∀ i,i<cs.length+3→∃ s,(firstL k n R::(cs.map cmdS++[wFinish,wJudge]))[i]? = some s:=fun i hi=>⟨_,List.getElem?_eq_getElem (by rw [hlen];exact hi)⟩
 refine sessionX (by omega) (split_txt hne fun p hp=>(hmem p hp).1) (dkDs k n R cs) (dkO k n R cs) rfl (fun i s hi hs=>(hall i s hi).1 hs) (fun i hi=>?_) ?_
 · rw [hlen] at hi
   obtain ⟨s,hs⟩:=hget i hi
   have:=(hall i s hs).2.2.2.2.1
   omega
 rw [hlen,outN_txt]
 have ho:∀ o∈(List.range (cs.length+3)).map (dkO k n R cs),(10:UInt8)∉o∧o.length≤1000:=fun o ho=>by
   obtain ⟨i,hi,rfl⟩:=List.mem_map.1 ho
   obtain ⟨s,hs⟩:=hget i (List.mem_range.1 hi)
   exact ⟨(hall i s hs).2.2.1,(hall i s hs).2.2.2.2.1⟩
 have hat:∀ i,i<cs.length+3→((List.range (cs.length+3)).map (dkO k n R cs))[i]? = some (dkO k n R cs i):=fun i hi=>by
   rw [List.getElem?_map,List.getElem?_range hi]
   rfl
 obtain ⟨f1,f2,f3,w,f4,f5⟩:=dk_fin hk hn hR hcs hct
 refine h _ (by simp) (fun o h=>(ho o h).1) ?_ (fun o h=>(ho o h).2) (fun i line hi hj=>?_) ?_ ?_
 · have:=txt_len (fun o h=>(ho o h).2)
   rw [List.length_map,List.length_range] at this
   omega
 · have hil:i<cs.length+1:=by
     have:=(List.getElem?_eq_some_iff.1 hi).1
     simpa using this
   have hi2:(firstL k n R::(cs.map cmdS++[wFinish,wJudge]))[i]? = some line:=by
     rw [show firstL k n R::(cs.map cmdS++[wFinish,wJudge])=(firstL k n R::cs.map cmdS)++[wFinish,wJudge] from rfl,List.getElem?_append_left (by simpa using hil)]
     exact hi
   exact ⟨_,hat i (by omega),(hall i line hi2).2.2.2.2.2 hj (by omega)⟩
 · rw [hat _ (by omega),dkO,if_neg (by omega),if_neg (by omega),judge_is hn f1,f2,f3]
   rfl
 · refine ⟨_,hat _ (by omega),?_⟩
   rw [dkO,if_neg (by omega),if_pos rfl,f4]
   show hasSuf (wFinish++(numsZ [w]++tailT)) tailT=true
   rw [←List.append_assoc,hasSuf]
   simp

end

end Go.Mac
end

section
open Go Go.Proofs Go.Mac
set_option maxRecDepth 100000

namespace Go.Mac
def dkM (x:Nat):Int:=if IntKind.i64.wrap (1-IntKind.i64.wrap ((x:Int).tdiv 10)) > 0 then IntKind.i64.wrap (1-IntKind.i64.wrap ((x:Int).tdiv 10)) else 0
theorem dkM_ok:∀ x<100,0≤dkM x∧dkM x≤2:=by decide +kernel

def dkRows (x:Nat):List (List FC):=[[.int .u8 (IntKind.u8.wrap (IntKind.i64.wrap (48+IntKind.i64.wrap ((x:Int).tdiv 10))))],[.int .u8 (IntKind.u8.wrap (IntKind.i64.wrap (48+(x:Int).tmod 10)))]]
theorem dk_text:∀ x<100,(((dkRows x).drop (0+(dkM x).toNat)).take (2-(dkM x).toNat)).map byteOf=Lib.itoa (x:Int):=by decide +kernel

section

variable {K:AV→List Nat→List PO→Prop}

theorem dkNum {x:Nat} (hx:x<100) (h:K (st (Lib.itoa x)) [] []):Does Tryz.prog 17 [i64 x] [] K:=by
 refine Does.cut 0 ?_
 refine does Tryz.func17 rfl (by decide) ?_
 refine Or.inl (at2 (dkM_ok x hx).1 (dkM_ok x hx).2 ?_)
 refine And.intro (by
   have:=dkM_ok x hx
   show 0+(dkM x).toNat+(2-(dkM x).toNat)≤2
   omega) (And.intro (fun y hy=>?_) ?_)
 · have hm:y∈dkRows x:=List.mem_of_mem_drop (List.mem_of_mem_take hy)
   simp only [dkRows,List.mem_cons,List.not_mem_nil,or_false] at hm
   rcases hm with rfl | rfl <;> exact ⟨_,rfl⟩
 · have e:K (st ((((dkRows x).drop (0+(dkM x).toNat)).take (2-(dkM x).toNat)).map byteOf)) [] []:=by
     rw [dk_text x hx]
     exact h
   exact ⟨by simp,by simp,rfl,rfl,e⟩

end

end Go.Mac
end

section
open Go Go.Proofs Go.Mac
set_option maxRecDepth 100000

namespace Go.Mac

theorem line_x (s:List UInt8) (hs:s.length≤1000000000) (d:DZ) (hw:wordsF s=[[120]]):LineX d s (d,errText (.no 3)):=by
 refine ⟨fun {K} v hv hwf hK=>?_⟩
 refine DoesX.does (DoesX.moved moL (DoesX.of ?_))
 refine doesD Tryz.func30 rfl (by decide) rfl rfl rfl rfl rfl rfl ⟨_,Tryz.func50,by decide,rfl⟩ (r:=16) (tc:=4) ?_
 refine And.intro rfl (And.intro rfl ?_)
 intro D
 change DoesX Tryz.prog 53 _ _ _ _
 refine DoesX.alone 17 (DoesX.of (fieldsFunc hs ?_))
 rw [hw]
 refine at2 (by decide) (by simp) (rd1 (rowStr [120]) (.str [120]) rfl rfl ?_)
 refine at2 (by decide) (by simp) (rd1 (rowStr [120]) (.str [120]) rfl rfl ?_)
 have hk:=hK v hv hwf
 refine And.intro rfl (sayNo (e:=3) (by decide) d v _ _ _ _ fun A B=>?_)
 exact And.intro (by decide) hk

theorem line_phaser (s:List UInt8) (hs:s.length≤1000000000) (d:DZ) (r:AnsZ) (a:List UInt8) (xs:List (List UInt8)) (hx:xs.length≤1000000000) (hw:wordsF s=[112,104,97,115,101,114]::a::xs)
   (hr:SaidX 64 d ([112,104,97,115,101,114]::a::xs) r)
   (hl:∀ t,r.2=.ok t→t.length≤1000000000) (he:∀ e,r.2=.error e→okEZ e):LineX d s (tellD [112,104,97,115,101,114] r):=by
 refine ⟨fun {K} v hv hwf hK=>?_⟩
 refine doesD Tryz.func30 rfl (by decide) rfl rfl rfl rfl rfl rfl ⟨_,Tryz.func50,by decide,rfl⟩ (r:=16) (tc:=4) ?_
 refine And.intro rfl (And.intro rfl ?_)
 intro D
 change DoesX Tryz.prog 53 _ _ _ _
 refine DoesX.alone 17 (DoesX.of (fieldsFunc hs ?_))
 rw [hw]
 have h0:(0:Int)<((([112,104,97,115,101,114]::a::xs).length:Nat):Int):=by simp;omega
 refine at2 (by decide) h0 (rd1 (rowStr [112,104,97,115,101,114]) (.str [112,104,97,115,101,114]) rfl rfl ?_)
 refine at2 (by decide) h0 (rd1 (rowStr [112,104,97,115,101,114]) (.str [112,104,97,115,101,114]) rfl rfl ?_)
 have h1:(1:Int)≤((([112,104,97,115,101,114]::a::xs).length:Nat):Int):=by simp;omega
 refine SX.drawR follows (by decide) ?_
 refine at2 (by decide) h0 (rd1 (rowStr [112,104,97,115,101,114]) (.str [112,104,97,115,101,114]) rfl rfl ?_)
 refine at2 (by decide) h0 (rd1 (rowStr [112,104,97,115,101,114]) (.str [112,104,97,115,101,114]) rfl rfl ?_)
 refine Or.inl (at2 (by decide) h1 ?_)
 change DoesX Tryz.prog 64 _ _ _ _
 refine DoesX.on 20 [0,1,2,3,4,5,6,7,8,9,10,11,12,13,14,15,17] _ _ (hr v hv hwf (fun t v' ht hv' hw'=>?_) (fun e v' ht hv' hw'=>?_))
 · have hb:=hl t ht
   have hk:=hK v' hv' hw'
   rw [show (tellD [112,104,97,115,101,114] r).2=[112,104,97,115,101,114]++t by simp only [tellD,ht]] at hk
   repeat' (first | refine And.intro rfl ?_ | refine And.intro (Or.inl (And.intro (by decide) (And.intro h1 rfl))) ?_ | refine And.intro (And.intro (by decide) (And.intro h0 rfl)) ?_ | refine And.intro (Exists.intro _ (Exists.intro _ (And.intro rfl (And.intro rfl rfl)))) ?_ | fail)
   refine And.intro (Nat.le_trans (Nat.add_le_add_left hb 6) (show 6+1000000000≤9223372036854775807 by decide)) ?_
   refine And.intro rfl (sayNone (show 16<20 by decide) ?_)
   exact hk
 · have hb:=he e ht
   have hk:=hK v' hv' hw'
   rw [show (tellD [112,104,97,115,101,114] r).2=errText e by simp only [tellD,ht]] at hk
   cases e with
   | no e =>
     refine And.intro rfl (sayNo hb _ v' _ _ _ _ fun A B=>?_)
     exact hk
   | pl e p =>
     refine And.intro rfl (sayPl hb.1 hb.2 _ v' _ _ _ _ fun A B C=>?_)
     exact hk

end Go.Mac
end

section
open Go Go.Proofs Go.Mac
set_option maxRecDepth 100000

namespace Go.Mac

def deskT:List UInt8:=[98,97,114,114,105,101,114,32,115,116,97,116,105,99,32,50,32,49,10,102,105,110,105,115,104,10,106,117,100,103,101,10,112,104,97,115,101,114,32,49,32,112,97,115,115,44,108,101,97,118,101,10,102,105,110,105,115,104,10,115,116,97,116,101,10,120,10]
def deskO:List UInt8:=[98,97,114,114,105,101,114,32,50,10,102,105,110,105,115,104,32,51,54,32,116,114,117,101,32,102,97,108,115,101,10,106,117,100,103,101,32,49,32,49,10,112,104,97,115,101,114,32,49,10,102,105,110,105,115,104,32,52,54,32,116,114,117,101,32,102,97,108,115,101,10,115,116,97,116,101,32,116,114,117,101,32,49,32,48,32,48,10,101,114,114,111,114,32,51,10]

theorem nums_2:numsZ [2]=[32,50]:=by decide +kernel
theorem nums_36:numsZ [36]=[32,51,54]:=by decide +kernel
theorem nums_46:numsZ [46]=[32,52,54]:=by decide +kernel
theorem nums_1:numsZ [1]=[32,49]:=by decide +kernel
theorem nums_11:numsZ [1,1]=[32,49,32,49]:=by decide +kernel
theorem nums_100:numsZ [1,0,0]=[32,49,32,48,32,48]:=by decide +kernel

def dzA:DZ:=⟨danceM 3 2 1,[],false⟩
def dzB:DZ:={ dzA with m:=finish dzA.m }
def dzC:DZ:=⟨mz0 [gathP [⟨9,0⟩,⟨8,0⟩]] [pkWordZ false 0 1 1],[[⟨9,0⟩,⟨8,0⟩]],true⟩
def dzD:DZ:={ dzC with m:=finish dzC.m }

theorem said_barrier:barrierD dz0 [115,116,97,116,105,99] [50] [49]=(dzA,.ok (numsZ [2])):=by
 have h1:kindV [115,116,97,116,105,99]=some 3:=by decide
 have h2:tokV [50]=some 2:=by decide +kernel
 have h3:tokV [49]=some 1:=by decide +kernel
 rw [barrierD,h1]
 dsimp only
 rw [h2]
 dsimp only
 rw [h3]
 rfl

theorem said_phaser (d:DZ):phaseD d [49] [[112,97,115,115,44,108,101,97,118,101]]=(dzC,.ok (numsZ [1])):=by
 have h1:countV [49]=.ok 1:=by
   have h3:tokV [49]=some 1:=by decide +kernel
   rw [countV,h3]
   rfl
 have h2:wordsV [[112,97,115,115,44,108,101,97,118,101]]=some [[⟨9,0⟩,⟨8,0⟩]]:=by rfl
 rw [phaseD,h1]
 dsimp only
 rw [opensD,h2]
 rfl

def fin1 (m:MZ):Bool:=m.k == 36 && allZ m && !stuckZ m && (checkZ 2 m.el).isNone && allG 2 m.el == 1 && anyR m.el == 1 && m.ps.length == 2
theorem fin1_ok:finB 80 (danceM 3 2 1) fin1=true:=by decide +kernel
def fin2x (m:MZ):Bool:=m.k == 46 && allZ m && !stuckZ m && !m.ws.isEmpty && pkRightB (gPh (m.ws.headD 0)) (gPa (m.ws.headD 0)) (gWa (m.ws.headD 0)) && gO (m.ws.headD 0) && gPh (m.ws.headD 0) == 1 && gPa (m.ws.headD 0) == 0 && gWa (m.ws.headD 0) == 0
theorem fin2x_ok:finB 200 dzC.m fin2x=true:=by decide +kernel

end Go.Mac
end

section
open Go Go.Proofs Go.Mac
set_option maxRecDepth 100000

namespace Go.Mac

def deskD:Nat→DZ
 | 0=>dz0
 | 1=>dzA
 | 2=>dzB
 | 3=>dzB
 | 4=>dzC
 | 5=>dzD
 | 6=>dzD
 | _=>dzD

def deskS0:Nat→List UInt8
 | 0=>[98,97,114,114,105,101,114,32,50]
 | 1=>[102,105,110,105,115,104,32,51,54,32,116,114,117,101,32,102,97,108,115,101]
 | 2=>[106,117,100,103,101,32,49,32,49]
 | 3=>[112,104,97,115,101,114,32,49]
 | 4=>[102,105,110,105,115,104,32,52,54,32,116,114,117,101,32,102,97,108,115,101]
 | 5=>[115,116,97,116,101,32,116,114,117,101,32,49,32,48,32,48]
 | 6=>[101,114,114,111,114,32,51]
 | _=>[]

theorem dw0:wordsF [98,97,114,114,105,101,114,32,115,116,97,116,105,99,32,50,32,49]=[[98,97,114,114,105,101,114],[115,116,97,116,105,99],[50],[49]]:=(words_join (ps:=[[98,97,114,114,105,101,114],[115,116,97,116,105,99],[50],[49]]) (by decide) (by decide))
theorem dw1:wordsF [102,105,110,105,115,104]=[[102,105,110,105,115,104]]:=(words_join (ps:=[[102,105,110,105,115,104]]) (by decide) (by decide))
theorem dw2:wordsF [106,117,100,103,101]=[[106,117,100,103,101]]:=(words_join (ps:=[[106,117,100,103,101]]) (by decide) (by decide))
theorem dw3:wordsF [112,104,97,115,101,114,32,49,32,112,97,115,115,44,108,101,97,118,101]=[[112,104,97,115,101,114],[49],[112,97,115,115,44,108,101,97,118,101]]:=(words_join (ps:=[[112,104,97,115,101,114],[49],[112,97,115,115,44,108,101,97,118,101]]) (by decide) (by decide))
theorem dw4:wordsF [102,105,110,105,115,104]=[[102,105,110,105,115,104]]:=(words_join (ps:=[[102,105,110,105,115,104]]) (by decide) (by decide))
theorem dw5:wordsF [115,116,97,116,101]=[[115,116,97,116,101]]:=(words_join (ps:=[[115,116,97,116,101]]) (by decide) (by decide))
theorem dw6:wordsF [120]=[[120]]:=(words_join (ps:=[[120]]) (by decide) (by decide))

theorem err_3:errText (.no 3)=[101,114,114,111,114,32,51]:=by decide +kernel

theorem dA (s:List UInt8) (hs:s.length≤1000000000) (hw:wordsF s=[[98,97,114,114,105,101,114],[115,116,97,116,105,99],[50],[49]]):LineX dz0 s (dzA,[98,97,114,114,105,101,114,32,50]):=by
 have h:=line_barrier s hs dz0 (barrierD dz0 [115,116,97,116,105,99] [50] [49]) _ _ _ hw (saidBarrier dz0 _ _ _ _ (by decide) (by decide)) (fun t ht=>by rw [said_barrier] at ht;cases ht;rw [nums_2];decide) fun e he=>by rw [said_barrier] at he;cases he
 rw [said_barrier,tellD] at h
 simp only [nums_2] at h
 exact h

theorem finD_eq {d d':DZ} (hd:d' = { d with m:=finish d.m }) {n:Nat} {x:List UInt8} (hk:(d'.m).k=n) (h0:d.m.k=0) (ha:allZ d'.m=true) (hst:stuckZ d'.m=false) (hn:n≤100000) (hx:numsZ [(n:Int)]=x) :
   finishD d=(d',.ok (x++[32,116,114,117,101,32,102,97,108,115,101])):=by
 subst hd
 dsimp only at hk ha hst
 rw [finishD,hk,h0,ha,hst,wrap_i64 _ (by omega) (by omega)]
 rw [show ((n:Int)-((0:Nat):Int))=(n:Int) by omega,hx]
 rfl

theorem dBf:dzB.m.k=36∧allZ dzB.m=true∧stuckZ dzB.m=false∧checkZ 2 dzB.m.el=none∧allG 2 dzB.m.el=1∧anyR dzB.m.el=1∧dzB.m.ps.length=2:=by
 have w0:WF (danceM 3 2 1):=kind_w0 (by decide) (by decide) (by decide)
 have h:=finB_ok w0 fin1_ok
 rw [show dzB.m=finish (danceM 3 2 1) by simp only [dzB,dzA]]
 generalize finish (danceM 3 2 1)=z at h ⊢
 simp only [fin1,Bool.and_eq_true,beq_iff_eq,Bool.not_eq_true',Option.isNone_iff_eq_none] at h
 obtain ⟨⟨⟨⟨⟨⟨h1,h2⟩,h3⟩,h4⟩,h5⟩,h6⟩,h7⟩:=h
 exact ⟨h1,h2,h3,h4,h5,h6,h7⟩

theorem dDf:dzD.m.k=46∧allZ dzD.m=true∧stuckZ dzD.m=false∧dzD.m.ws≠[]∧pkRightB (gPh (dzD.m.ws.headD 0)) (gPa (dzD.m.ws.headD 0)) (gWa (dzD.m.ws.headD 0))=true∧gO (dzD.m.ws.headD 0)=true∧gPh (dzD.m.ws.headD 0)=1∧gPa (dzD.m.ws.headD 0)=0∧gWa (dzD.m.ws.headD 0)=0:=by
 have w0:WF dzC.m:=mz0_wf (by decide) (by decide) (by decide +kernel) (by decide +kernel)
 have h:=finB_ok w0 fin2x_ok
 rw [show dzD.m=finish dzC.m by simp only [dzD]]
 generalize finish dzC.m=z at h ⊢
 simp only [fin2x,Bool.and_eq_true,beq_iff_eq,Bool.not_eq_true',List.isEmpty_eq_false_iff] at h
 obtain ⟨⟨⟨⟨⟨⟨⟨⟨h1,h2⟩,h3⟩,h4⟩,h5⟩,h6⟩,h7⟩,h8⟩,h9⟩:=h
 exact ⟨h1,h2,h3,h4,h5,h6,h7,h8,h9⟩

theorem dB (s:List UInt8) (hs:s.length≤1000000000) (hw:wordsF s=[[102,105,110,105,115,104]]):LineX dzA s (dzB,[102,105,110,105,115,104,32,51,54,32,116,114,117,101,32,102,97,108,115,101]):=by
 obtain ⟨h1,h2,h3,_⟩:=dBf
 have e:=finD_eq (d:=dzA) (d':=dzB) rfl h1 rfl h2 h3 (by decide) nums_36
 have h:=line_finish s hs dzA _ hw (saidFinish dzA _) (fun t ht=>by rw [e] at ht;cases ht;decide) fun e' he=>by rw [e] at he;cases he
 rw [e] at h
 exact h

theorem dC (s:List UInt8) (hs:s.length≤1000000000) (hw:wordsF s=[[106,117,100,103,101]]):LineX dzB s (dzB,[106,117,100,103,101,32,49,32,49]):=by
 obtain ⟨_,_,_,h4,h5,h6,h7⟩:=dBf
 have e:judgeD dzB=(dzB,.ok [32,49,32,49]):=by
   rw [judgeD,h7,if_pos (by decide),h4,h5,h6,nums_11]
 have h:=line_judge s hs dzB _ hw (saidJudge dzB _) (fun t ht=>by rw [e] at ht;cases ht;decide) fun e' he=>by rw [e] at he;cases he
 rw [e] at h
 exact h

theorem dD (s:List UInt8) (hs:s.length≤1000000000) (hw:wordsF s=[[112,104,97,115,101,114],[49],[112,97,115,115,44,108,101,97,118,101]]):LineX dzB s (dzC,[112,104,97,115,101,114,32,49]):=by
 have h:=line_phaser s hs dzB (phaseD dzB [49] [[112,97,115,115,44,108,101,97,118,101]]) _ _ (by decide) hw (saidPhase dzB _ _ _ (by decide) (by decide) (by decide)) (fun t ht=>by rw [said_phaser] at ht;cases ht;rw [nums_1];decide) fun e he=>by rw [said_phaser] at he;cases he
 rw [said_phaser,tellD] at h
 simp only [nums_1] at h
 exact h

theorem dE (s:List UInt8) (hs:s.length≤1000000000) (hw:wordsF s=[[102,105,110,105,115,104]]):LineX dzC s (dzD,[102,105,110,105,115,104,32,52,54,32,116,114,117,101,32,102,97,108,115,101]):=by
 obtain ⟨h1,h2,h3,_⟩:=dDf
 have e:=finD_eq (d:=dzC) (d':=dzD) rfl h1 rfl h2 h3 (by decide) nums_46
 have h:=line_finish s hs dzC _ hw (saidFinish dzC _) (fun t ht=>by rw [e] at ht;cases ht;decide) fun e' he=>by rw [e] at he;cases he
 rw [e] at h
 exact h

theorem dF (s:List UInt8) (hs:s.length≤1000000000) (hw:wordsF s=[[115,116,97,116,101]]):LineX dzD s (dzD,[115,116,97,116,101,32,116,114,117,101,32,49,32,48,32,48]):=by
 obtain ⟨_,_,_,h4,h5,h6,h7,h8,h9⟩:=dDf
 have e:stateD dzD=(dzD,.ok [32,116,114,117,101,32,49,32,48,32,48]):=by
   rw [stateD,if_pos (show dzD.ph=true from rfl),if_pos h5,h6,h7,h8,h9,nums_100]
   rfl
 have h:=line_state s hs dzD _ hw (saidState dzD _ fun _=>h4) (fun t ht=>by rw [e] at ht;cases ht;decide) fun e' he=>by rw [e] at he;cases he
 rw [e] at h
 exact h

section

variable {K:AV→List Nat→List PO→Prop}

theorem desked (h:K (bl true) [] sysH):Does Tryz.prog 6 [] sysH K:=by
 refine does Tryz.func6 rfl (by decide) ?_
 change Does Tryz.prog 10 _ _ _
 have hl:splitB 10 (trimSuf deskT [10])=[[98,97,114,114,105,101,114,32,115,116,97,116,105,99,32,50,32,49],[102,105,110,105,115,104],[106,117,100,103,101],[112,104,97,115,101,114,32,49,32,112,97,115,115,44,108,101,97,118,101],[102,105,110,105,115,104],[115,116,97,116,101],[120]]:=by decide +kernel
 refine sessionX (t:=deskT) (by decide) hl deskD deskS0 rfl (fun k s hk hs=>?_) (fun k hk=>?_) ?_
 · match k,hk with
   | 0,hk =>
     obtain rfl:=Option.some.inj hk
     exact dA _ hs dw0
   | 1,hk =>
     obtain rfl:=Option.some.inj hk
     exact dB _ hs dw1
   | 2,hk =>
     obtain rfl:=Option.some.inj hk
     exact dC _ hs dw2
   | 3,hk =>
     obtain rfl:=Option.some.inj hk
     exact dD _ hs dw3
   | 4,hk =>
     obtain rfl:=Option.some.inj hk
     exact dE _ hs dw4
   | 5,hk =>
     obtain rfl:=Option.some.inj hk
     exact dF _ hs dw5
   | 6,hk =>
     obtain rfl:=Option.some.inj hk
     have h:=line_x _ hs dzD dw6
     rw [err_3] at h
     exact h
   | k+7,hk=>simp at hk
 · have hall:∀ k<7,(deskS0 k).length≤1000000000:=by decide
   exact hall k hk
 · exact h

end

end Go.Mac
end
