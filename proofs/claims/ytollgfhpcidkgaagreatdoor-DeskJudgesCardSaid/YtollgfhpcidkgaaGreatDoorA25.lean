/- Texts that belong together; the first of them:  -/
import Derived.Test.YtollgfhpcidkgaaGreatDoorA24
import Derived.Test.YtollgfhpcidkgaaGreatDoorA22
import Derived.Test.YtollgfhpcidkgaaGreatDoorA20
import Derived.Test.YtollgfhpcidkgaaGreatDoorA3
import Derived.Test.YtollgfhpcidkgaaGreatDoorRows
import Derived.ChangeSlices
import Derived.SizedLaws
import Derived.JoinedOf
import Derived.KernelRfl
import Derived.SevenTiedAt
import Derived.Test.YtollgfhpcidkgaaGreatDoorCards
import Derived.Test.YtollgfhpcidkgaaGreatDoorA4
import Derived.ChangeSame
import Derived.ChangeVars
import Derived.LaidLaws
import Derived.LaidHandle
import Derived.Lay
import Derived.Lib.LaidTab
import Derived.Stop.Joined
import Derived.Stop.LaidErr
import Derived.Test.YtollgfhpcidkgaaGreatDoorA5
import Derived.Test.YtollgfhpcidkgaaGreatDoorA13
import Derived.Conc.Holds
import Derived.Leaving

section
open Go Go.Proofs Go.Mac
set_option maxRecDepth 100000

namespace Go.Mac

abbrev namesR:List (List FC):=[rowStr [99,101,110,116,114,97,108],rowStr [99,111,109,98,105,110,101],rowStr [115,116,97,116,105,99],rowStr [115,112,114,101,97,100],rowStr [116,111,117,114,110,101,121],rowStr [109,99,115]]

theorem names_at {k:Nat} (hk:1≤k∧k≤6):namesR[0+Int.toNat (IntKind.i64.wrap ((k:Int)-1))]? = some (rowStr (kindName k)):=by
 have:k=1∨k=2∨k=3∨k=4∨k=5∨k=6:=by omega
 rcases this with rfl | rfl | rfl | rfl | rfl | rfl <;> rfl

def dkCmd (n:Nat) (x:Int):Int×Nat:=(pickZ (IntKind.i64.wrap (x.tdiv 16)) 5,(pickZ x n).toNat)

abbrev rows5 (t:List UInt8):List (List FC):=[rowStr ([115,116,101,112,32]++t),rowStr (([114,117,110,32]++t)++[32,57]),rowStr ([112,111,107,101,32]++t),rowStr [114,111,117,110,100,32,50],rowStr [106,117,100,103,101]]

theorem rows5_at {q:Int} (hq:0≤q∧q<5) (t:Nat):(rows5 (Lib.itoa t))[0+Int.toNat q]? = some (rowStr (cmdS (q,t))):=by
 have:q=0∨q=1∨q=2∨q=3∨q=4:=by omega
 rcases this with rfl | rfl | rfl | rfl | rfl
 · rfl
 · have e:cmdS (1,t)=([114,117,110,32]++Lib.itoa t)++[32,57]:=by
     show [114,117,110]++32::(Lib.itoa t++32::[57])=_
     simp
   rw [e]
   rfl
 · rfl
 · rfl
 · rfl

theorem txt_snoc (a:List (List UInt8)) (b:List UInt8):txt (a++[b])=txt a++(b++[10]):=by rw [txt_append];simp [txt]

theorem dk_session2 {K:AV→List Nat→List PO→Prop} {k n R:Nat} {cs:List (Int×Nat)} (hk:1≤k∧k≤6) (hn:1≤n∧n≤16) (hR:R≤6) (hcs:cs.length≤60) (hct:∀ c∈cs,c.2<100)
   (h:∀ outs:List (List UInt8),outs.length=cs.length+4→(∀ o∈outs,(10:UInt8)∉o)→(txt outs).length≤1000000→(∀ o∈outs,o.length≤1000) →
     (∀ (i:Nat) (line:List UInt8),(firstL k n R::cs.map cmdS)[i]? = some line→line=wJudge→∃ o:List UInt8,outs[i]? = some o∧hasPre o (wJudge++[32])=true)→outs[cs.length+3]? = some (wJudge++numsZ [(R:Int),(R:Int)]) →
     (∃ o:List UInt8,outs[cs.length+2]? = some o∧hasSuf o tailT=true)→K (st (txt outs)) [] sysH) :
   Does Tryz.prog 10 [st (txt (firstL k n R::cs.map cmdS)++[106,117,100,103,101,10,102,105,110,105,115,104,10,106,117,100,103,101,10])] sysH K:=by
 have e:txt (firstL k n R::cs.map cmdS)++[106,117,100,103,101,10,102,105,110,105,115,104,10,106,117,100,103,101,10]=txt (firstL k n R::((cs++[(4,0)]).map cmdS++[wFinish,wJudge])):=by
   rw [List.map_append,show firstL k n R::(cs.map cmdS++[(4,0)].map cmdS++[wFinish,wJudge])=(firstL k n R::cs.map cmdS)++[wJudge,wFinish,wJudge] by simp;rfl,txt_append]
   rfl
 rw [e]
 refine dk_session hk hn hR (by simp;omega) (fun c hc=>?_) fun outs h1 h2 h3 h4 h5 h6 h7=>?_
 · rcases List.mem_append.1 hc with hc | hc
   · exact hct c hc
   · rw [List.mem_singleton.1 hc];decide
 · rw [List.length_append,List.length_singleton] at h1 h6 h7
   refine h outs (by omega) h2 h3 h4 (fun i line hi hj=>h5 i line ?_ hj) h6 h7
   rw [List.map_append,←List.cons_append,List.getElem?_append_left (List.getElem?_eq_some_iff.1 hi).1]
   exact hi

theorem cmd_nl (c:Int×Nat) (h:c.2<100):(10:UInt8)∉cmdS c:=by
 have hnw:=num_word h
 refine (words_ok (ws:=cmdW c.1 c.2) fun p hp=>?_).2
 unfold cmdW at hp
 have hd:∀ p:List UInt8,p∈[wStep,wRun,wPoke,wRound,wJudge,[57],[50]]→p≠[]∧∀ b∈p,33≤b.toNat∧b.toNat<128:=by decide
 repeat' split at hp
 all_goals simp only [List.mem_cons,List.not_mem_nil,or_false] at hp
 · rcases hp with rfl | rfl
   · exact hd _ (by simp)
   · exact hnw
 · rcases hp with rfl | rfl | rfl
   · exact hd _ (by simp)
   · exact hnw
   · exact hd _ (by simp)
 · rcases hp with rfl | rfl
   · exact hd _ (by simp)
   · exact hnw
 · rcases hp with rfl | rfl
   · exact hd _ (by simp)
   · exact hd _ (by simp)
 · subst hp
   exact hd _ (by simp)

theorem deskJudges (k:Int) (_hk : -9223372036854775808≤k∧k≤9223372036854775807) (n:Int) (_hn : -9223372036854775808≤n∧n≤9223372036854775807) (R:Int) (_hR : -9223372036854775808≤R∧R≤9223372036854775807) (l:List Int) (_hl:∀ x∈l,-9223372036854775808≤x∧x≤9223372036854775807) :
   Does Tryz.prog 5 [i64 k,i64 n,i64 R,cv (.slc 0 0 l.length none false)] [.rows true 1 (l.map rowZ),rtH,powH,errS,errR,namH] fun v _ _=>v=bl true:=by
 refine does Tryz.func5 rfl (by decide) ?_
 change Does Tryz.prog 6 _ _ _
 refine Does.on 6 [1,2,3,4,5] _ _ (desked ?_)
 refine brc_intro (fun _=>rfl) (fun h=>?_)
 have hll:l.length≤60:=by
   have:=of_decide_eq_false h
   omega
 change Does Tryz.prog 16 _ _ _
 refine Does.alone 6 (ball k n R ?_)
 obtain ⟨kk,hkk,hk1⟩:=pick6 k
 obtain ⟨nn,hnn,hn1⟩:=pick16b n
 obtain ⟨rr,hrr,hr1⟩:=pick7 R
 rw [hkk,hnn,hrr]
 refine SS.drawR follows (by decide) ?_
 have wk:IntKind.i64.wrap ((kk:Int)-1)=((kk-1:Nat):Int):=by
   rw [wrap_i64 _ (by omega) (by omega)]
   omega
 obtain ⟨kn1,kn2,kn3,kn4⟩:=kname hk1
 have ln:=num_len (x:=nn) (by omega)
 have lr:=num_len (x:=rr) (by omega)
 refine at2 (by rw [wk];omega) (by rw [wk];omega) (rd1 (rowStr (kindName kk)) (.str (kindName kk)) (names_at hk1) rfl ?_)
 refine And.intro (Nat.le_trans (Nat.add_le_add_left kn4 8) (by decide)) ?_
 refine And.intro (by simp;omega) ?_
 change Does Tryz.prog 17 _ _ _
 refine Does.alone 7 (dkNum (x:=nn) (by omega) ?_)
 have chk:(0:Int)≤IntKind.i64.wrap ((kk:Int)-1)∧IntKind.i64.wrap ((kk:Int)-1)<6:=by rw [wk];omega
 repeat' (first | refine And.intro rfl ?_ | refine And.intro (And.intro chk.1 (And.intro chk.2 rfl)) ?_ | refine And.intro (Exists.intro _ (Exists.intro _ (And.intro (names_at hk1) (And.intro rfl rfl)))) ?_ | refine And.intro (And.intro (by simp;omega) rfl) ?_ | refine And.intro (by simp;omega) ?_ | fail)
 change Does Tryz.prog 17 _ _ _
 refine Does.alone 7 (dkNum (x:=rr) (by omega) ?_)
 repeat' (first | refine And.intro rfl ?_ | refine And.intro (And.intro chk.1 (And.intro chk.2 rfl)) ?_ | refine And.intro (Exists.intro _ (Exists.intro _ (And.intro (names_at hk1) (And.intro rfl rfl)))) ?_ | refine And.intro (And.intro (by simp;omega) rfl) ?_ | refine And.intro (by simp;omega) ?_ | fail)
 have hct:∀ c∈l.map (dkCmd nn),c.2<100:=fun c hc=>by
   obtain ⟨x,_,rfl⟩:=List.mem_map.1 hc
   have:=pickZ_lt x (n:=(nn:Int)) (by omega)
   show (pickZ x nn).toNat<100
   omega
 have hfl:=first_ok hk1 hn1 hr1
 have hmem:∀ i,∀ p∈firstL kk nn rr::((l.map (dkCmd nn)).take i).map cmdS,p.length≤100:=fun i p hp=>by
   rcases List.mem_cons.1 hp with rfl | hp
   · exact hfl.1
   · obtain ⟨c,hc,rfl⟩:=List.mem_map.1 hp
     exact cmd_len c (hct c (List.mem_of_mem_take hc))
 have htl:∀ i,(txt (firstL kk nn rr::((l.map (dkCmd nn)).take i).map cmdS)).length≤10000:=fun i=>by
   have h1:=txt_len (hmem i)
   have h2:(firstL kk nn rr::((l.map (dkCmd nn)).take i).map cmdS).length≤61:=by
     simp only [List.length_cons,List.length_map,List.length_take]
     omega
   have h3:(firstL kk nn rr::((l.map (dkCmd nn)).take i).map cmdS).length*(100+1)≤61*101:=Nat.mul_le_mul_right _ h2
   omega
 refine SS.loop (fun i:Nat=>i≤l.length) (fun i=>[(1,i64 nn),(2,i64 rr),(3,cv (.slc 0 0 l.length none false)),(10,cv (.func 17 [])),(11,st (txt (firstL kk nn rr::((l.map (dkCmd nn)).take i).map cmdS))),(49,cv (.slc 0 0 l.length none false)),(50,i64 l.length),(51,i64 i)])
   (fun _=>[.rows true 1 (l.map rowZ),rtH,powH,errS,errR,namH]) (fun i=>l.length-i) []
   (At.mk' [1,2,3,10,11,49,50,51] 0 (by simp) ⟨?_,rfl⟩ rfl rfl (by simp) (by simp) (by simp)) ?_
 · have e:txt (firstL kk nn rr::((l.map (dkCmd nn)).take 0).map cmdS)=[98,97,114,114,105,101,114,32]++kindName kk++[32]++Lib.itoa (nn:Int)++[32]++Lib.itoa (rr:Int)++[10]:=by simp [txt,firstL,joinB]
   rw [e]
   rfl
 intro i hi
 change i≤l.length at hi
 refine S_r ?_
 refine brc_intro (fun hlt=>?_) (fun hlt=>?_)
 · have hlt:i<l.length:=by
     have:=of_decide_eq_true hlt
     have:(i:Int)<(l.length:Int):=this
     omega
   obtain ⟨x,hx⟩ : ∃ x,l[i]? = some x:=⟨_,List.getElem?_eq_getElem hlt⟩
   have hxr:=_hl x (List.mem_of_getElem? hx)
   have hti:=htl i
   have hpk:=pickZ_lt x (n:=(nn:Int)) (by omega)
   obtain ⟨t,ht⟩ : ∃ t:Nat,pickZ x nn=(t:Int):=⟨(pickZ x nn).toNat,by omega⟩
   have hpq:=pickZ_lt (IntKind.i64.wrap (x.tdiv 16)) (n:=5) (by decide)
   have hlt2:=num_len (x:=t) (by omega)
   have hcl:(cmdS (pickZ (IntKind.i64.wrap (x.tdiv 16)) 5,t)).length≤100:=cmd_len _ (by show t<100;omega)
   refine at2 (a:=(0:Int)≤(i:Int)) (b:=(i:Int)<(l.length:Int)) (by omega) (by omega) (rd1 (rowZ x) (.int .i64 x) (by simp [hx]) rfl ?_)
   change Does Tryz.prog 14 _ _ _
   refine Does.alone 6 (pick x nn ⟨by omega,by omega⟩ ?_)
   rw [ht]
   change Does Tryz.prog 17 _ _ _
   refine Does.alone 6 (dkNum (x:=t) (by omega) ?_)
   repeat' (first | refine And.intro rfl ?_ | refine And.intro (by simp;omega) ?_ | fail)
   change Does Tryz.prog 14 _ _ _
   refine Does.alone 7 (pick (IntKind.i64.wrap (x.tdiv 16)) 5 (by decide) ?_)
   refine at2 hpq.1 hpq.2 (rd1 (rowStr (cmdS (pickZ (IntKind.i64.wrap (x.tdiv 16)) 5,t))) (.str (cmdS (pickZ (IntKind.i64.wrap (x.tdiv 16)) 5,t))) (rows5_at hpq t) rfl ?_)
   refine And.intro (Nat.le_trans (Nat.add_le_add_right hcl 1) (by decide)) ?_
   refine And.intro (by
     rw [List.length_append]
     exact Nat.le_trans (Nat.add_le_add hti (Nat.add_le_add_right hcl 1)) (by decide)) ?_
   refine At.mk' [1,2,3,10,11,49,50,51] (i+1) ⟨hlt,by omega⟩ ⟨?_,rfl⟩ rfl rfl (by simp) (by simp) (by decide)
   have e1:IntKind.i64.wrap ((i:Int)+1)=((i+1:Nat):Int):=by rw [wrap_i64 _ (by omega) (by omega)];rfl
   have e2:txt (firstL kk nn rr::((l.map (dkCmd nn)).take (i+1)).map cmdS)=txt (firstL kk nn rr::((l.map (dkCmd nn)).take i).map cmdS)++(cmdS (pickZ (IntKind.i64.wrap (x.tdiv 16)) 5,t)++[10]):=by
     have ec:dkCmd nn x=(pickZ (IntKind.i64.wrap (x.tdiv 16)) 5,t):=by rw [dkCmd,ht,Int.toNat_natCast]
     rw [List.take_add_one,List.getElem?_map,hx,List.map_append,←List.cons_append]
     show txt (_++[cmdS (dkCmd nn x)])=_
     rw [txt_snoc,ec]
   rw [e1,e2]
 · have hlt:¬(i:Int)<(l.length:Int):=of_decide_eq_false hlt
   obtain rfl:i=l.length:=by omega
   have hti:=htl l.length
   rw [List.take_of_length_le (by simp)] at hti ⊢
   refine And.intro (Nat.le_trans (Nat.add_le_add_right hti 19) (by decide)) ?_
   change Does Tryz.prog 10 _ _ _
   refine Does.on 6 [1,2,3,4,5] _ _ (dk_session2 hk1 hn1 hr1 (by simpa using hll) hct fun outs h1 h2 h3 h4 h5 h6 h7=>?_)
   have hone:outs≠[]:=fun e=>by rw [e] at h1;simp at h1
   have hol:outs.length=l.length+4:=by rw [h1,List.length_map]
   have hsp:=split_txt hone h2
   have htr:(trimSuf (txt outs) [10]).length≤1000000:=by
     unfold trimSuf
     split
     · exact Nat.le_trans (by simp) h3
     · exact h3
   change Does Tryz.prog 19 _ _ _
   refine Does.alone 6 (trimSuffix (by omega) (by decide) ?_)
   change Does Tryz.prog 18 _ _ _
   refine Does.alone 6 (splitAll (s:=trimSuf (txt outs) [10]) (c:=10) (by omega) ?_)
   rw [hsp]
   have hlne:firstL kk nn rr::(l.map (dkCmd nn)).map cmdS≠[]:=by simp
   have hnl:∀ p∈firstL kk nn rr::(l.map (dkCmd nn)).map cmdS,(10:UInt8)∉p:=fun p hp=>by
     rcases List.mem_cons.1 hp with rfl | hp
     · exact hfl.2.1
     · obtain ⟨c,hc,rfl⟩:=List.mem_map.1 hp
       exact cmd_nl c (hct c hc)
   have hsp2:=split_txt hlne hnl
   have hll2:(firstL kk nn rr::(l.map (dkCmd nn)).map cmdS).length=l.length+1:=by simp
   have htr2:(trimSuf (txt (firstL kk nn rr::(l.map (dkCmd nn)).map cmdS)) [10]).length≤10000:=by
     unfold trimSuf
     split
     · exact Nat.le_trans (by simp) hti
     · exact hti
   change Does Tryz.prog 19 _ _ _
   refine Does.alone 7 (trimSuffix (by omega) (by decide) ?_)
   change Does Tryz.prog 18 _ _ _
   refine Does.alone 7 (splitAll (s:=trimSuf (txt (firstL kk nn rr::(l.map (dkCmd nn)).map cmdS)) [10]) (c:=10) (by omega) ?_)
   rw [hsp2]
   generalize hlines:firstL kk nn rr::(l.map (dkCmd nn)).map cmdS=lines at *
   refine SS.loop (fun i:Nat=>i≤lines.length) (fun i=>[(2,i64 rr),(3,cv (.slc 0 0 l.length none false)),(10,cv (.func 17 [])),(15,cv (.slc 6 0 outs.length none true)),(84,cv (.slc 7 0 lines.length none true)),(85,i64 lines.length),(86,i64 i)])
     (fun _=>[.rows true 1 (l.map rowZ),rtH,powH,errS,errR,namH,.rows false 1 (outs.map rowStr),.rows false 1 (lines.map rowStr)]) (fun i=>lines.length-i) []
     (At.mk' [2,3,10,15,84,85,86] 0 (by simp) ⟨rfl,rfl⟩ rfl rfl (by simp) (by simp) (by simp)) ?_
   intro i hi
   change i≤lines.length at hi
   refine S_r ?_
   refine brc_intro (fun hlt=>?_) (fun hlt=>?_)
   · have hlt:i<lines.length:=by
       have:=of_decide_eq_true hlt
       have:(i:Int)<(lines.length:Int):=this
       omega
     obtain ⟨x,hx⟩ : ∃ x,lines[i]? = some x:=⟨_,List.getElem?_eq_getElem hlt⟩
     obtain ⟨o,ho⟩ : ∃ o,outs[i]? = some o:=⟨_,List.getElem?_eq_getElem (by omega)⟩
     refine SS.inlR ?_
     refine at2 (a:=(0:Int)≤(i:Int)) (b:=(i:Int)<(lines.length:Int)) (by omega) (by omega) (rd1 (rowStr x) (.str x) (by simp [hx]) rfl ?_)
     have e1:IntKind.i64.wrap ((i:Int)+1)=((i+1:Nat):Int):=by rw [wrap_i64 _ (by omega) (by omega)];rfl
     refine brc_intro (fun hj=>?_) (fun hj=>?_)
     · have hj:x=wJudge:=eq_of_beq hj
       obtain ⟨o',ho',hp⟩:=h5 i x hx hj
       rw [ho] at ho'
       obtain rfl:=Option.some.inj ho'
       refine brc_intro (fun hg=>?_) (fun hg=>?_)
       · have hg:(i:Int)≥(outs.length:Int):=of_decide_eq_true hg
         omega
       · refine at2 (a:=(0:Int)≤(i:Int)) (b:=(i:Int)<(outs.length:Int)) (by omega) (by omega) (rd1 (rowStr o) (.str o) (by simp [ho]) rfl ?_)
         change Does Tryz.prog 9 _ _ _
         have hol2:=h4 o (List.mem_of_getElem? ho)
         refine Does.alone 8 (hasPrefix (s:=o) (p:=[106,117,100,103,101,32]) (by omega) (by decide) ?_)
         have hp2:hasPre o [106,117,100,103,101,32]=true:=hp
         rw [hp2]
         refine At.mk' [2,3,10,15,84,85,86] (i+1) ⟨hlt,by omega⟩ ⟨?_,rfl⟩ rfl rfl (by simp) (by simp) (by decide)
         rw [e1]
     · refine At.mk' [2,3,10,15,84,85,86] (i+1) ⟨hlt,by omega⟩ ⟨?_,rfl⟩ rfl rfl (by simp) (by simp) (by decide)
       rw [e1]
   · have hlt:¬(i:Int)<(lines.length:Int):=of_decide_eq_false hlt
     have w1:IntKind.i64.wrap ((outs.length:Int)-1)=((l.length+3:Nat):Int):=by rw [wrap_i64 _ (by omega) (by omega)];omega
     have w2:IntKind.i64.wrap ((outs.length:Int)-2)=((l.length+2:Nat):Int):=by rw [wrap_i64 _ (by omega) (by omega)];omega
     have w4:IntKind.i64.wrap (4+(l.length:Int))=(outs.length:Int):=by rw [wrap_i64 _ (by omega) (by omega)];omega
     obtain ⟨o2,ho2,hs2⟩:=h7
     rw [List.length_map] at h6 ho2
     have el:wJudge++numsZ [(rr:Int),(rr:Int)]=[106,117,100,103,101,32]++Lib.itoa (rr:Int)++[32]++Lib.itoa (rr:Int):=by simp [numsZ]
     rw [el] at h6
     have hb1:(0:Int)≤IntKind.i64.wrap ((outs.length:Int)-1)∧IntKind.i64.wrap ((outs.length:Int)-1)<outs.length:=by rw [w1];omega
     have hb2:(0:Int)≤IntKind.i64.wrap ((outs.length:Int)-2)∧IntKind.i64.wrap ((outs.length:Int)-2)<outs.length:=by rw [w2];omega
     have hr1:(outs.map rowStr)[0+Int.toNat (IntKind.i64.wrap ((outs.length:Int)-1))]? = some (rowStr ([106,117,100,103,101,32]++Lib.itoa (rr:Int)++[32]++Lib.itoa (rr:Int))):=by
       rw [w1,Int.toNat_natCast,Nat.zero_add,List.getElem?_map,h6]
       rfl
     have hr2:(outs.map rowStr)[0+Int.toNat (IntKind.i64.wrap ((outs.length:Int)-2))]? = some (rowStr o2):=by
       rw [w2,Int.toNat_natCast,Nat.zero_add,List.getElem?_map,ho2]
       rfl
     have hol2:=h4 o2 (List.mem_of_getElem? ho2)
     refine SS.drawR follows (by decide) ?_
     refine brc_intro (fun hg=>?_) (fun hg=>?_)
     · refine at2 hb1.1 hb1.2 (rd1 (rowStr ([106,117,100,103,101,32]++Lib.itoa (rr:Int)++[32]++Lib.itoa (rr:Int))) (.str ([106,117,100,103,101,32]++Lib.itoa (rr:Int)++[32]++Lib.itoa (rr:Int))) hr1 rfl ?_)
       change Does Tryz.prog 17 _ _ _
       refine Does.alone 8 (dkNum (x:=rr) (by omega) ?_)
       repeat' (first | refine And.intro rfl ?_ | refine And.intro (And.intro hb1.1 (And.intro hb1.2 rfl)) ?_ | refine And.intro (Exists.intro _ (Exists.intro _ (And.intro hr1 (And.intro rfl rfl)))) ?_ | refine And.intro (And.intro (by simp;omega) rfl) ?_ | refine And.intro (by simp;omega) ?_ | fail)
       change Does Tryz.prog 17 _ _ _
       refine Does.alone 8 (dkNum (x:=rr) (by omega) ?_)
       repeat' (first | refine And.intro rfl ?_ | refine And.intro (And.intro hb1.1 (And.intro hb1.2 rfl)) ?_ | refine And.intro (Exists.intro _ (Exists.intro _ (And.intro hr1 (And.intro rfl rfl)))) ?_ | refine And.intro (And.intro (by simp;omega) rfl) ?_ | refine And.intro (by simp;omega) ?_ | fail)
       refine brc_intro (fun hq=>?_) (fun hq=>?_)
       · refine at2 hb2.1 hb2.2 (rd1 (rowStr o2) (.str o2) hr2 rfl ?_)
         change Does Tryz.prog 20 _ _ _
         refine Does.alone 8 (hasSuffix (s:=o2) (p:=[32,116,114,117,101,32,102,97,108,115,101]) (by omega) (by decide) ?_)
         have hs3:hasSuf o2 [32,116,114,117,101,32,102,97,108,115,101]=true:=hs2
         rw [hs3]
         repeat' (first | refine And.intro rfl ?_ | refine And.intro (And.intro hb2.1 (And.intro hb2.2 rfl)) ?_ | refine And.intro (Exists.intro _ (Exists.intro _ (And.intro hr2 (And.intro rfl rfl)))) ?_ | fail)
         rfl
       · exfalso
         have hq:(([106,117,100,103,101,32]++Lib.itoa (rr:Int)++[32]++Lib.itoa (rr:Int)) == ([106,117,100,103,101,32]++Lib.itoa (rr:Int)++[32]++Lib.itoa (rr:Int)))=false:=hq
         rw [beq_self_eq_true] at hq
         cases hq
     · exfalso
       have hg:((outs.length:Int) == IntKind.i64.wrap (4+(l.length:Int)))=false:=hg
       rw [w4,beq_self_eq_true] at hg
       cases hg

end Go.Mac
end

section
open Go Go.Proofs Go.Mac Go.ChangeShapes Go.WideShapes Go.ChangeAt Go.RowKit
set_option maxRecDepth 100000

namespace Go.Mac

theorem laidOut:laidOutB Tryz.prog=true:=by kernel_rfl

theorem heap_of_cell {w:World} {a:Addr} {v:Value} (h:w.cell? a=some v):a.spot=none∧a.block<w.heap.size:=by
 unfold World.cell? at h
 split at h
 · rename_i c t fr hb
   split at h
   · cases h
   · rename_i hs
     refine ⟨by cases hh:a.spot <;> simp [hh] at hs ⊢,?_⟩
     exact (Array.getElem?_eq_some_iff.1 hb).1
 · cases h

theorem open_row {H:Type} {enc:TypeId×Value→H} {W:World} {b0 base:Nat} {hd:Bool} {t e:TypeId} {k:IntKind} {v:Value} {d:DataW H} {ps:List MemPlace} (ht:Tryz.prog.underlying t=some (.slice e)) (he:Tryz.prog.underlying e=some (.int k)) (hc:Tryz.prog.cellsOf e=1)
   (hv:Value.okWide Tryz.prog W .any b0 t v) (h:DataW.Trod enc Tryz.prog W base (fun _=>true) hd t v d ps) :
   ∃ (l:List Int) (loc:Loc),(∀ x∈l,(Lit.int k x).wf=true)∧l.length≤9223372036854775807∧(∀ (N:Nat) (L:Nat→Loc) (i:Nat),i<N→L i=loc→VA N L (cv (.slc i 0 l.length none false)) v) ∧
     (∀ (N:Nat) (L:Nat→Loc),OR N L W (.rows true 1 (l.map fun x=>[.int k x])) loc)∧(∀ b,Ro (.rows true 1 (l.map fun x=>[.int k x])) loc b→b<W.heap.size) ∧
     (l.length=0∨∃ es sp:List (DataW H),d=.slice es sp∧es.length=l.length):=by
 obtain ⟨a,len,cap,rfl⟩:=okWide_slice ht hv
 obtain ⟨fuel,hf⟩:=h
 rcases open_ints ht he hc hf with ⟨h1,_⟩ | ⟨a',len',cap',zs,h1,_,hle,hm,hlen,hdx,hcell,hwf⟩
 · simp only [Value.cells,List.cons.injEq,Value.slice.injEq,and_true] at h1
   obtain ⟨rfl,rfl,rfl⟩:=h1
   refine ⟨[],⟨⟨0,0,0,1⟩,fun _=>⟨0,0,0,0⟩⟩,by simp,by simp,fun N L i hi hl=>⟨hi,.inl ⟨rfl,rfl,rfl,fun c' hc'=>by cases hc'⟩⟩,fun N L=>⟨rfl,by simp,by simp,by simp,by simp⟩,?_,.inl rfl⟩
   rintro b ⟨hb,_⟩
   exact absurd rfl hb
 · simp only [Value.cells,List.cons.injEq,Value.slice.injEq,and_true] at h1
   obtain ⟨rfl,rfl,rfl⟩:=h1
   simp only [if_true] at hlen
   have hm':cap≤9223372036854775807:=hm
   have hspot:cap≠0→a'.spot=none∧a'.block<W.heap.size:=fun h0=>by
     have:=hcell 0 (by omega)
     rw [show a'.add 0=a' from rfl] at this
     exact heap_of_cell this
   have htl:(zs.take len).length=len:=by simp;omega
   refine ⟨zs.take len,⟨⟨a'.block,a'.off,cap,1⟩,fun _=>⟨0,0,0,0⟩⟩,fun x hx=>hwf x (List.mem_of_mem_take hx),by rw [htl];omega,fun N L i hi hl=>⟨hi,.inr ⟨a',cap,?_,?_,?_,?_,?_,?_⟩⟩,fun N L=>⟨rfl,by simp,?_,by simp,?_⟩,?_,.inr ⟨_,_,(Prod.mk.inj hdx).1,by simp [lits]⟩⟩
   · rw [htl]
   · rw [htl];exact hle
   · intro c' hc';cases hc'
   · rw [hl];simp
   · rw [hl];simp
   · intro h0
     rw [hl]
     obtain ⟨hs,_⟩:=hspot h0
     cases a'
     simp at hs
     subst hs
     simp [ILoc.at]
   · rw [List.length_map,htl];exact hle
   · intro i r hr
     rw [List.getElem?_map,Option.map_eq_some_iff] at hr
     obtain ⟨x,hx,rfl⟩:=hr
     refine ⟨rfl,fun f y hy=>?_⟩
     cases f with
     | succ f=>simp at hy
     | zero =>
       simp only [List.getElem?_cons_zero,Option.some.injEq] at hy
       subst hy
       have hi:i<len:=by
         have:=(List.getElem?_eq_some_iff.1 hx).1
         omega
       rw [List.getElem?_take_of_lt hi] at hx
       have:=hcell i (by omega)
       obtain ⟨hs,_⟩:=hspot (by omega)
       have e:a'.add i=(⟨a'.block,a'.off,cap,1⟩ : ILoc).at i 0:=by
         cases a'
         simp at hs
         subst hs
         simp only [Addr.add,ILoc.at]
         split
         · subst_vars;simp
         · simp
       rw [e] at this
       rw [this]
       simp [FC.val,List.getD_eq_getElem?_getD,hx]
   · rintro b ⟨hb,rfl⟩
     exact (hspot hb).2

def locOf (l:List Loc) (i:Nat):Loc:=l.getD i ⟨⟨0,0,0,0⟩,fun _=>⟨0,0,0,0⟩⟩

end Go.Mac
end

section
open Go Go.Proofs Go.Mac Go.ChangeShapes Go.WideShapes Go.ChangeAt Go.RowKit
set_option maxRecDepth 100000

namespace Go.Mac

end Go.Mac
end

section
namespace Go.Mac
open Go

def lightB (P:Program) (f:FuncId) (fn:Func) (s:ChangeSpec) (c:OpenClaim):Bool :=
 c.wf (OpenSpec.ofChange s) && laidOutB P && mapsRowed P &&
 fn.params.all (P.readableRec ·) && namedTie P c.named s.vars &&
 (c.stops == []) && (P.stops == []) && (c.knobs == []) && (P.stopKnobs == []) &&
 (c.inPlace == P.inPlace f) && (c.unfollowed == P.unfollowed f) && (c.recurses == P.recurses f) && (c.named == P.varsNamed f) &&
 (c.maps == (fn.params.toList++s.plain.varTypes P).any (P.mapsRec ·)) && (c.ifaces == (fn.params.toList++s.plain.varTypes P).any (P.ifacesRec ·)) && (c.mapsOut == P.mapsAmong fn.resultTypes.toList) &&
 (c.loops == (fn.params.toList++s.plain.varTypes P).any (P.loopsFrom ·)) && (c.wideKeys == (fn.params.toList++s.plain.varTypes P++fn.resultTypes.toList).any (P.wideKeysFrom ·)) &&
 s.vars.all (P.varReadable ·) && fn.resultTypes.all (fun t=>P.readableRec t && decide (t<P.types.size)) && (c.ifacesOut == fn.resultTypes.toList.any (P.ifacesRec ·)) && (c.loopsOut == fn.resultTypes.toList.any (P.loopsFrom ·)) && c.shortTexts.isNone && (c.kinds == (if c.domain.isEmpty then [] else fn.params.toList.map fun t=>match P.underlying t with | some (.int k)=>some k | _=>none)) && (c.pinned == c.pinnedBy) &&
 (c.veiled == (fn.params.toList++s.plain.varTypes P++fn.resultTypes.toList).any (P.veiledRec ·)) && c.veiledFits P fn.params.toList (fn.params.toList++s.plain.varTypes P++fn.resultTypes.toList)

def heavyB (P:Program) (c:OpenClaim):Bool:=(c.plainKeys == P.plainKeys) && P.stopsHeard && P.mayEnter && (c.lifted == P.liftsFinal) && (P.make == some c.make)

theorem joined_of {P:Program} {f:FuncId} {fn:Func} {s:ChangeSpec} {c:OpenClaim} (g1:lightB P f fn s c=true) (g2:heavyB P c=true):joinedFacts P f fn s c=true:=by
 simp only [lightB,Bool.and_eq_true] at g1
 simp only [heavyB,Bool.and_eq_true] at g2
 obtain ⟨⟨⟨⟨⟨⟨⟨⟨⟨⟨⟨⟨⟨⟨⟨⟨⟨⟨⟨⟨⟨⟨⟨⟨⟨⟨a1,a2⟩,a3⟩,a4⟩,a5⟩,a6⟩,a7⟩,a8⟩,a9⟩,a10⟩,a11⟩,a12⟩,a13⟩,a14⟩,a15⟩,a16⟩,a17⟩,a18⟩,a19⟩,a20⟩,a21⟩,a22⟩,a23⟩,a24⟩,a25⟩,a26⟩,a27⟩:=g1
 obtain ⟨⟨⟨⟨h1,h2⟩,h3⟩,h4⟩,h5⟩:=g2
 simp only [joinedFacts,Bool.and_eq_true]
 exact ⟨⟨⟨⟨⟨⟨⟨⟨⟨⟨⟨⟨⟨⟨⟨⟨⟨⟨⟨⟨⟨⟨⟨⟨⟨⟨⟨⟨⟨⟨⟨a1,a2⟩,a3⟩,a4⟩,a5⟩,a6⟩,a7⟩,a8⟩,a9⟩,a10⟩,a11⟩,a12⟩,a13⟩,a14⟩,a15⟩,a16⟩,a17⟩,a18⟩,a19⟩,a20⟩,a21⟩,a22⟩,h1⟩,a23⟩,h2⟩,h3⟩,h4⟩,h5⟩,a24⟩,a25⟩,a26⟩,a27⟩

end Go.Mac
end

section
namespace Go.Proofs.YtollgfhpcidkgaaGreatDoor
open Go.Mac

theorem heavy:heavyB Tryz.prog Rows.deskPiecesRow=true:=by kernel_rfl

end Go.Proofs.YtollgfhpcidkgaaGreatDoor
end

section
namespace Go.Proofs.YtollgfhpcidkgaaGreatDoor

theorem looksAll:true=Tryz.prog.looks []:=by kernel_rfl

end Go.Proofs.YtollgfhpcidkgaaGreatDoor
end

section
namespace Go.Proofs.YtollgfhpcidkgaaGreatDoor

theorem mainAll:Tryz.prog.mainIs=some (Rows.deskPiecesCard.stood.harness.1,Rows.deskPiecesCard.stood.harness.2.toList):=by kernel_rfl

end Go.Proofs.YtollgfhpcidkgaaGreatDoor
end

section
open Go Go.Proofs Go.Mac Go.ChangeShapes Go.WideShapes Go.ChangeAt Go.RowKit
set_option maxRecDepth 100000

namespace Go.Mac

open Go.Proofs.YtollgfhpcidkgaaGreatDoor.Rows in
abbrev laidE:List (String×DataW Unit):=[("math/bits.deBruijn32tab",laid_math_bits_deBruijn32tab),("math/bits.deBruijn64tab",laid_math_bits_deBruijn64tab),("internal/strconv.uint64pow10",laid_internal_strconv_uint64pow10),("unicode/utf8.acceptRanges",laid_unicode_utf8_acceptRanges),("errors.errorType",laid_errors_errorType),("strconv.ErrRange",laid_strconv_ErrRange),("strconv.ErrSyntax",laid_strconv_ErrSyntax),("quadrille/desk.names",laid_quadrille_desk_names),("unicode/utf8.first",laid_unicode_utf8_first)]

open Go.Proofs.YtollgfhpcidkgaaGreatDoor.Rows in
abbrev laidN:List (String×DataW Unit):=[("math/bits.deBruijn32tab",laid_math_bits_deBruijn32tab),("math/bits.deBruijn64tab",laid_math_bits_deBruijn64tab),("internal/strconv.uint64pow10",laid_internal_strconv_uint64pow10),("unicode/utf8.acceptRanges",laid_unicode_utf8_acceptRanges),("strconv.ErrRange",laid_strconv_ErrRange),("strconv.ErrSyntax",laid_strconv_ErrSyntax),("quadrille/desk.names",laid_quadrille_desk_names),("unicode/utf8.first",laid_unicode_utf8_first)]

abbrev laidH:List (String×DataW Unit):=[("errors.errorType",Go.Proofs.YtollgfhpcidkgaaGreatDoor.Rows.laid_errors_errorType)]

theorem laid_et:Tryz.prog.globalNamed "errors.errorType" = some 0:=by kernel_rfl
theorem laid_rt:(Tryz.prog.cutTypes.find? (·.1 == "internal/reflectlite.rtype")).map (·.2)=some 216:=by kernel_rfl
theorem laid_oneRow:((List.range 353).filter fun t=>Tryz.prog.rowNamed t [101,114,114,111,114])=[30]:=by kernel_rfl
theorem laid_size:Tryz.prog.types.size=353:=by kernel_rfl

theorem laid_parts {W:World} (h:laidMetH Tryz.prog laidE W):laidMet Tryz.prog laidN W∧handlesMet Tryz.prog laidH W:=h

theorem handle_of_laid {W:World} (h:laidMetH Tryz.prog laidE W):W.cell? ⟨0,0,none⟩ = some (.iface 216 (.agg #[.pointer (some ⟨10,30,none⟩)])):=by
 obtain ⟨name,u,ty,e1,e2,e3,e4,e5⟩:=(laid_parts h).2 _ (List.mem_singleton.2 rfl)
 have en:name=[101,114,114,111,114]:=(Option.some.inj e1).symm
 subst en
 obtain rfl:=Option.some.inj (laid_rt.symm.trans e2)
 have hm:ty∈(List.range 353).filter fun t=>Tryz.prog.rowNamed t [101,114,114,111,114]:=List.mem_filter.2 ⟨List.mem_range.2 (by rw [←laid_size];exact e3),e4⟩
 rw [laid_oneRow] at hm
 obtain rfl:=List.mem_singleton.1 hm
 have hh:typeHandle Tryz.prog 30=.pointer (some ⟨10,30,none⟩):=by kernel_rfl
 rw [hh] at e5
 simpa using World.var?_cell laid_et e5 0

theorem pow_data:Go.Proofs.YtollgfhpcidkgaaGreatDoor.Rows.laid_internal_strconv_uint64pow10 (H:=Unit)=Lib.tabData .u64 Lib.pow10Tab:=by kernel_rfl

theorem pow_of_laid {W:World} (h:laidMetH Tryz.prog laidE W):Lib.TabIs Tryz.prog W "internal/strconv.uint64pow10" .u64 Lib.pow10Tab:=by
 have h':=(laid_parts h).1.tail.tail
 rw [pow_data] at h'
 exact Lib.tabIs_of_head pow_named (t:=294) (e:=74) (n:=20) (by kernel_rfl) Tryz.underlying294 Tryz.underlying74 (by kernel_rfl) (by kernel_rfl) h'

noncomputable def laidWorld0 (os:Os):World :=
 let w0:=World.holding Tryz.prog os ⟨#[],#[],[]⟩
 { w0 with heap:=w0.heap.modify 0 fun
     | .cells _ t frozen=>.cells #[.iface 216 (.agg #[.pointer (some ⟨10,30,none⟩)])] t frozen
     | o=>o }
noncomputable def laidWorld (os:Os):World:=(laidWorld0 os).layVars Tryz.prog laidN
theorem laidWorld_os (os:Os):(laidWorld os).os=os:=World.layVars_os _ _ _
theorem laidN_filter:(laidN.filter fun x=>(laidN.map (·.1)).contains x.1)=laidN:=List.filter_eq_self.2 fun x hx=>List.contains_iff_mem.2 (List.mem_map.2 ⟨x,hx,rfl⟩)
theorem laidN_rest:(laidN.filter fun x=>!(laidN.map (·.1)).contains x.1)=[]:=List.filter_eq_nil_iff.2 fun x hx=>by rw [List.contains_iff_mem.2 (List.mem_map.2 ⟨x,hx,rfl⟩)];simp
theorem laidWorld_plain (os:Os):laidMet Tryz.prog laidN (laidWorld os) :=
 laidMet_layVars (w0:=laidWorld0 os) (laidN.map (·.1)) [] (by rw [laidN_filter];rfl) (by rw [laidN_filter];kernel_rfl) (by rw [laidN_filter];kernel_rfl) (by rw [laidN_rest];exact LaidIn.none)
theorem laidWorld_met (os:Os) (args:Array Value):laidMetH Tryz.prog laidE ((laidWorld os).forCall (fun _ _=>0) ⟨#[],args,[]⟩).memory :=
 laidMetH_of_parts ((laidWorld_plain os).of_heap (by simp [World.memory,World.forCall,Input.heap])) (by kernel_rfl)

theorem handle_obj {W:World} (h:laidMetH Tryz.prog laidE W) (N:Nat) (L:Nat→Loc) {l:Loc}:OR N L W (.hnd 0 216 10 30) l:=handle_of_laid h
theorem handle_ro {W:World} (h:laidMetH Tryz.prog laidE W) (l:Loc) (b:Nat) (hb:Ro (.hnd 0 216 10 30) l b):b<W.heap.size:=by
 have hg:=handle_of_laid h
 obtain rfl:b=0:=hb
 rcases Nat.lt_or_ge 0 W.heap.size with h | h
 · exact h
 · simp [World.cell?,Array.getElem?_eq_none h] at hg
theorem pow_cells {W:World} (h:laidMetH Tryz.prog laidE W):∃ t fr,W.heap[(5:Nat)]? = some (.cells ((Lib.pow10Tab.map fun z=>FC.int .u64 z).map FC.val).toArray t fr):=by
 have h':=pow_of_laid h
 unfold Lib.TabIs World.var? at h'
 rw [pow_named] at h'
 change (match W.heap[(5:Nat)]? with | some (Obj.cells cs _ _)=>some cs | _=>none)=_ at h'
 split at h'
 · rename_i cs t fr e
   refine ⟨t,fr,e.trans ?_⟩
   rw [Option.some.inj h',List.map_map]
   rfl
 · cases h'
theorem pow_obj {W:World} (h:laidMetH Tryz.prog laidE W) (N:Nat) (L:Nat→Loc) {l:Loc}:OR N L W powH l:=pow_cells h
theorem pow_ro {W:World} (h:laidMetH Tryz.prog laidE W) (l:Loc) (b:Nat) (hb:Ro powH l b):b<W.heap.size:=by
 obtain ⟨t,fr,hg⟩:=pow_cells h
 obtain rfl:b=5:=hb
 exact (Array.getElem?_eq_some_iff.1 hg).1

end Go.Mac
end

section
open Go Go.Proofs Go.Mac Go.ChangeShapes Go.WideShapes Go.ChangeAt Go.RowKit
set_option maxRecDepth 100000

namespace Go.Mac

theorem errS_named:Tryz.prog.globalNamed "strconv.ErrSyntax" = some 6:=by kernel_rfl
theorem errR_named:Tryz.prog.globalNamed "strconv.ErrRange" = some 7:=by kernel_rfl
theorem errS_type:(Tryz.prog.globals[(6:Nat)]?).map (·.type)=some 30:=by kernel_rfl
theorem errR_type:(Tryz.prog.globals[(7:Nat)]?).map (·.type)=some 30:=by kernel_rfl
theorem errCells:Tryz.prog.cellsOf 326=1:=by kernel_rfl
theorem strCells1:Tryz.prog.cellsOf 9=1:=by kernel_rfl

theorem errStar : "*errors.errorString" = "*" ++ "errors.errorString" := by decide
theorem errRow (u:TypeId) (h:Tryz.prog.typeName? 3 u=some "*errors.errorString"):u=324 :=
 typeName_ptr_named (nm := "errors.errorString") (by rw [←errStar];kernel_rfl) (by kernel_rfl) (by decide) u (by rw [←errStar];exact h)

theorem errS_cell {W:World} (h:laidMetH Tryz.prog laidE W):∃ t p,W.cell? ⟨6,0,none⟩ = some (.iface t p):=by
 have h:=(laid_parts h).1
 have h':=h.tail.tail.tail.tail.tail
 obtain ⟨a,s,hv,_⟩:=laid_sentinel h' errS_named errS_type Tryz.underlying30 errRow Tryz.underlying324 Tryz.underlying326 rfl rfl Tryz.underlying9 errCells strCells1
 exact ⟨_,_,by simpa using World.var?_cell errS_named hv 0⟩

theorem errR_cell {W:World} (h:laidMetH Tryz.prog laidE W):∃ t p,W.cell? ⟨7,0,none⟩ = some (.iface t p):=by
 have h:=(laid_parts h).1
 have h':=h.tail.tail.tail.tail
 obtain ⟨a,s,hv,_⟩:=laid_sentinel h' errR_named errR_type Tryz.underlying30 errRow Tryz.underlying324 Tryz.underlying326 rfl rfl Tryz.underlying9 errCells strCells1
 exact ⟨_,_,by simpa using World.var?_cell errR_named hv 0⟩

theorem cellLt {W:World} {g:Nat} {v:Value} (h:W.cell? ⟨g,0,none⟩ = some v):g<W.heap.size:=by
 rcases Nat.lt_or_ge g W.heap.size with h' | h'
 · exact h'
 · simp [World.cell?,Array.getElem?_eq_none h'] at h

theorem errS_obj {W:World} (h:laidMetH Tryz.prog laidE W) (N:Nat) (L:Nat→Loc) {l:Loc}:OR N L W errS l:=errS_cell h
theorem errR_obj {W:World} (h:laidMetH Tryz.prog laidE W) (N:Nat) (L:Nat→Loc) {l:Loc}:OR N L W errR l:=errR_cell h
theorem errS_ro {W:World} (h:laidMetH Tryz.prog laidE W) (l:Loc) (b:Nat) (hb:Ro errS l b):b<W.heap.size:=by
 obtain ⟨_,_,hc⟩:=errS_cell h
 obtain rfl:b=6:=hb
 exact cellLt hc
theorem errR_ro {W:World} (h:laidMetH Tryz.prog laidE W) (l:Loc) (b:Nat) (hb:Ro errR l b):b<W.heap.size:=by
 obtain ⟨_,_,hc⟩:=errR_cell h
 obtain rfl:b=7:=hb
 exact cellLt hc

theorem names_named:Tryz.prog.globalNamed "quadrille/desk.names" = some 4:=by kernel_rfl

theorem cells_of_strs {H:Type} {enc:TypeId×Value→H} {P:Program} {w:World} {base:Nat} {sp:Nat→Bool} {held:Bool} {fuel:Nat} {t e:TypeId} {n:Nat} {cs:List Value} {zs:List (List UInt8)} {p:List MemPlace}
   (ht:P.underlying t=some (.array n e)) (he:P.underlying e=some .string) (hce:P.cellsOf e=1) (hct:P.cellsOf t=n)
   (h:DataW.trod enc P w base sp held fuel t cs=some (.agg (zs.map fun z=>.lit (.string z)),p)):cs=zs.map fun z=>Value.string ⟨z.toArray⟩:=by
 cases fuel with
 | zero=>simp [DataW.trod] at h
 | succ fuel =>
   simp only [DataW.trod,ht,hce,hct,Nat.mul_one] at h
   split at h
   · rename_i hl
     obtain ⟨xs,hm,hx⟩:=Option.map_eq_some_iff.1 h
     have hxs:xs.map (·.1)=zs.map fun z=>(DataW.lit (.string z):DataW H):=by
       have:=congrArg Prod.fst hx
       simpa using this
     have hxl:xs.length=n:=by simpa using Lib.mapM_length hm
     have hzl:zs.length=n:=by
       have:=congrArg List.length hxs
       simp at this
       omega
     apply List.ext_getElem?
     intro i
     by_cases hi:i<n
     · obtain ⟨b,hb,hf⟩:=Lib.mapM_at hm i i (by simp [hi])
       obtain ⟨z,hc,rfl,_⟩:=DataW.trod_string he hf
       have h1:cs[i]? = some (.string z):=by
         have:=congrArg (·[0]?) hc
         simpa [List.getElem?_take,List.getElem?_drop] using this
       have h2:(xs.map (·.1))[i]? = some (DataW.lit (.string z.data.toList):DataW H):=by simp [hb]
       rw [hxs] at h2
       simp only [List.getElem?_map,Option.map_eq_some_iff,DataW.lit.injEq,Lit.string.injEq] at h2
       obtain ⟨z',hz',hz2⟩:=h2
       rw [h1,List.getElem?_map,hz',Option.map_some,hz2]
     · rw [List.getElem?_eq_none (by omega),List.getElem?_eq_none (by simp;omega)]
   · cases h

theorem names_data:Go.Proofs.YtollgfhpcidkgaaGreatDoor.Rows.laid_quadrille_desk_names (H:=Unit)=.agg (namL.map fun z=>.lit (.string z)):=rfl

theorem names_cells {W:World} (h:laidMetH Tryz.prog laidE W):∃ t fr,W.heap[(4:Nat)]? = some (.cells ((namL.map FC.str).map FC.val).toArray t fr):=by
 have h:=(laid_parts h).1
 have h':=h.tail.tail.tail.tail.tail.tail
 rw [names_data] at h'
 obtain ⟨ps,⟨g',t',cs,fuel,p,q,hg',ht',hvar,hd,_,_⟩,_⟩:=h'
 obtain rfl:=Option.some.inj (names_named.symm.trans hg')
 have hty:(Tryz.prog.globals[(4:Nat)]?).map (·.type)=some 275:=by kernel_rfl
 obtain rfl:=Option.some.inj (hty.symm.trans ht')
 have hcs:=cells_of_strs (n:=19) (e:=9) Tryz.underlying275 Tryz.underlying9 (by kernel_rfl) (by kernel_rfl) hd
 unfold World.var? at hvar
 rw [names_named] at hvar
 change (match W.heap[(4:Nat)]? with | some (Obj.cells cs _ _)=>some cs | _=>none)=_ at hvar
 split at hvar
 · rename_i cs' t fr e
   refine ⟨t,fr,e.trans ?_⟩
   have hcs2:cs=(namL.map fun z=>Value.string ⟨z.toArray⟩).toArray:=by rw [←hcs]
   rw [Option.some.inj hvar,hcs2,List.map_map]
   rfl
 · cases hvar
theorem names_obj {W:World} (h:laidMetH Tryz.prog laidE W) (N:Nat) (L:Nat→Loc) {l:Loc}:OR N L W namH l:=names_cells h
theorem names_ro {W:World} (h:laidMetH Tryz.prog laidE W) (l:Loc) (b:Nat) (hb:Ro namH l b):b<W.heap.size:=by
 obtain ⟨t,fr,hg⟩:=names_cells h
 obtain rfl:b=4:=hb
 exact (Array.getElem?_eq_some_iff.1 hg).1

end Go.Mac
end

section
open Go

namespace Go.Mac

theorem leaving_of_handed {a:Assume} {C:Checked} {os:Os} {f:FuncId} {r:Reach} {Pre:World→Array Value→Prop} {Post:World→Array Value→Value→World→Prop}
   (h:ReturnsInHanded a C os f r Pre Post):ReturnsInLeavingWide a C os f r Pre Post :=
 fun e=>ReturnsInOpen.mono (fun _ _ _ x=>⟨x.2.1,onlyLeaving_of_quiet x.1,x.2.2⟩) (fun _ x=>x) (h e)

theorem holds_tied_goes (Lk:Looks) {p:Pinned} {s:OpenSpec} {c:OpenClaim} (al:List (List PathCond)) (kinds:List LaidKind) (tests:Bool) (har:Bool×String) (lk:Bool)
   (hc:c.holds p s) (hal:∀ D∈al,(c.withDomain D).holds p s) (hw:c.wfByText s=true) (hwal:∀ D∈al,(c.withDomain D).wfByText s=true)
   (htie:c.laidByTextAt Lk p kinds tests)
   (hst:c.start=.entering) (hnb:c.noBlocks=false∧c.again=false) (hm:p.checked.prog.mainIs=some (har.1,har.2.toList)) (hn:(!har.1 && har.2.isEmpty && !lk)=false)
   (hl:∀ f fn,p.checked.prog.funcNamed c.func=some f→p.checked.prog.funcs[f]? = some fn→lk=p.checked.prog.looks []∧∀ (j:Nat) t,fn.params[j]? = some t→p.checked.prog.wantsStandIn t=false)
   (hg:true=c.goesBy p.checked.prog) :
   Claim7.holds p (.plain s) { stood:={ row:=c,standIns:=[],harness:=har,looks:=lk },kinds:=[],alts:=al,goes:=true,laidByText:=true,laidKinds:=kinds,laidTests:=tests,laidLooks:=Lk }:=by
 have h6:∀ r:OpenClaim,Claim7.isSixth { stood:={ row:=r,standIns:=[],harness:=har,looks:=lk },kinds:=[] }=false:=fun r=>by simpa [Claim7.isSixth] using hn
 refine ⟨Claim7.tied_new_at Lk kinds tests (Claim7.new_of_sixth hc har lk hst hnb hm (h6 c) hl) hw,fun D hD=>?_,htie,(fun h=>by cases h),hg⟩
 exact Claim7.tied_new_at Lk kinds tests (Claim7.new_of_sixth (hal D hD) har lk hst hnb hm (h6 _) hl) (hwal D hD)

end Go.Mac
end
