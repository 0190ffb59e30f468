/- Texts that belong together; the first of them:  -/
import Derived.Test.YtollgfhpcidkgaaGreatDoorA22
import Derived.Test.YtollgfhpcidkgaaGreatDoorA19

section
open Go Go.Proofs Go.Mac
set_option maxRecDepth 100000

namespace Go.Mac

def DQ (k n R b:Nat) (m:MZ):Prop:=∃ A V,DI n (kindC k n) R (PP k n) (kindI k n R) (kindF k n R) b A V m

section

variable {k n R b:Nat} {m:MZ}

theorem DQ.wf (h:DQ k n R b m):WF m:=by
 obtain ⟨A,V,h⟩:=h
 exact h.abs.wf

theorem DQ.mono {b':Nat} (h:DQ k n R b m) (hb:b≤b'):DQ k n R b' m:=by
 obtain ⟨A,V,h1,h2,h3,h4⟩:=h
 exact ⟨A,V,h1,h2,h3,by omega⟩

theorem DQ.ok (h:DQ k n R b m):checkZ n m.el=none:=by
 obtain ⟨A,V,h⟩:=h
 exact h.ev.ok

theorem DQ.ps (h:DQ k n R b m):m.ps.length=n:=by
 obtain ⟨A,V,h⟩:=h
 rw [h.abs.wf.ps,h.abs.ln]

theorem DQ.step (hk:1≤k∧k≤6) (hn:1≤n∧n≤16) (h:DQ k n R b m) (t:Int):DQ k n R b (stepZ m t).2:=by
 obtain ⟨A,V,h⟩:=h
 rcases step_or h.abs.wf t with e | ⟨s,rfl,hc,hk2⟩
 · rw [e]
   exact ⟨A,V,h⟩
 · exact h.go (kind_bar R hk hn) hc hk2

theorem DQ.run (hk:1≤k∧k≤6) (hn:1≤n∧n≤16) (h:DQ k n R b m) (l:List Int):DQ k n R b (runM m l).2:=by
 have:∀ (l:List Int) (p:Nat×MZ),DQ k n R b p.2→DQ k n R b (l.foldl runS p).2:=by
   intro l
   induction l with
   | nil=>exact fun p h=>h
   | cons x l ih=>exact fun p h=>ih _ (h.step hk hn x)
 exact this l (0,m) h

theorem DQ.poke (hk:1≤k∧k≤6) (hn:1≤n∧n≤16) (h:DQ k n R b m) (t:Int):DQ k n R (b+4) (pokeZ m t):=by
 obtain ⟨A,V,h⟩:=h
 exact ⟨A,V,h.poke (kind_bar R hk hn) t⟩

theorem DQ.finish (hk:1≤k∧k≤6) (hn:1≤n∧n≤16) (h:DQ k n R b m) (hb:b<20000):DQ k n R b (finish m)∧allZ (finish m)=true∧stuckZ (finish m)=false∧allG n (finish m).el=R∧anyR (finish m).el=R:=by
 obtain ⟨A,V,h⟩:=h
 obtain ⟨A',V',h2,he⟩:=h.finish (kind_bar R hk hn) hb
 obtain ⟨h3,h4,_,h5,h6,_⟩:=h2.ended (kind_bar R hk hn) hn.1 he
 exact ⟨⟨A',V',h2⟩,h3,h4,h5,h6⟩

end

theorem do_num (m:MZ) (t:Nat) (x:ThZ) (i:InsZ):0≤(doZ m t x i).1∧(doZ m t x i).1≤100:=by
 unfold doZ
 split
 · simp
 · split <;> simp

theorem step_num (m:MZ) (t:Int):0≤(stepZ m t).1∧(stepZ m t).1≤100:=by
 unfold stepZ
 split
 · simp
 · split
   · simp
   · split
     · simp
     · split
       · simp
       · exact do_num _ _ _ _

def facts100 (x:Nat):Bool:=(tokV (Lib.itoa x) == some (x:Int)) && !(Lib.itoa (x:Int)).isEmpty && (Lib.itoa (x:Int)).all fun b=>decide (48≤b.toNat∧b.toNat≤57)

theorem num_facts:∀ x<100,facts100 x=true:=by decide +kernel

theorem num_ok {x:Nat} (h:x<100):tokV (Lib.itoa x)=some (x:Int)∧Lib.itoa (x:Int)≠[]∧∀ b∈Lib.itoa (x:Int),48≤b.toNat∧b.toNat≤57:=by
 have:=num_facts x h
 simp only [facts100,Bool.and_eq_true,beq_iff_eq,Bool.not_eq_true',List.isEmpty_eq_false_iff,List.all_eq_true,decide_eq_true_eq] at this
 exact ⟨this.1.1,this.1.2,this.2⟩

theorem itoa_bytes {x:Int} {b:UInt8} (h:b∈Lib.itoa x):b=45∨(48≤b.toNat∧b.toNat≤57):=by
 unfold Lib.itoa at h
 split at h
 · rcases List.mem_cons.1 h with h | h
   · exact .inl h
   · exact .inr (decDigits_dig (x.natAbs+1) _ (by omega) b h)
 · exact .inr (decDigits_dig (x.natAbs+1) _ (by omega) b h)

theorem nums_bytes {l:List Int} {b:UInt8} (h:b∈numsZ l):b=32∨b=45∨(48≤b.toNat∧b.toNat≤57):=by
 rw [numsZ,List.mem_flatten] at h
 obtain ⟨y,hy,hb⟩:=h
 obtain ⟨x,_,rfl⟩:=List.mem_map.1 hy
 rcases List.mem_cons.1 hb with h | h
 · exact .inl h
 · exact .inr (itoa_bytes h)

theorem nums_nl (l:List Int):(10:UInt8)∉numsZ l:=fun h=>by
 rcases nums_bytes h with h | h | h
 · cases h
 · cases h
 · exact absurd h.1 (by decide)

theorem err_nl (e:EZ):(10:UInt8)∉errText e:=fun h=>by
 have hi:∀ x,(10:UInt8)∉Lib.itoa x:=fun x h=>by
   rcases itoa_bytes h with h | h
   · cases h
   · exact absurd h.1 (by decide)
 cases e with
 | no e =>
   rcases List.mem_append.1 h with h | h
   · exact absurd h (by decide)
   · exact hi _ h
 | pl e p =>
   rcases List.mem_append.1 h with h | h
   · rcases List.mem_append.1 h with h | h
     · exact absurd h (by decide)
     · exact hi _ h
   · rcases List.mem_append.1 h with h | h
     · exact absurd h (by decide)
     · exact hi _ h

theorem err_len {e:EZ} (h:okEZ e):(errText e).length≤100:=by
 cases e with
 | no e =>
   have:=itoa_len h.1 h.2
   simp [errText];omega
 | pl e p =>
   have:=itoa_len h.1.1 h.1.2
   have:=itoa_len h.2.1 h.2.2
   simp [errText];omega

end Go.Mac
end

section
open Go Go.Proofs Go.Mac
set_option maxRecDepth 100000

namespace Go.Mac

theorem line_barrier (s:List UInt8) (hs:s.length≤1000000000) (d:DZ) (r:AnsZ) (a b c:List UInt8) (hw:wordsF s=[[98,97,114,114,105,101,114],a,b,c]) (hr:SaidX 56 d [[98,97,114,114,105,101,114],a,b,c] r)
   (hl:∀ t,r.2=.ok t→t.length≤1000000000) (he:∀ e,r.2=.error e→okEZ e):LineX d s (tellD [98,97,114,114,105,101,114] r):=by
 refine ⟨fun {K} v hv hwf hK=>?_⟩
 refine doesD Tryz.func30 rfl (by decide) rfl rfl rfl rfl rfl rfl ⟨_,Tryz.func50,by decide,rfl⟩ (r:=16) (tc:=4) ?_
 refine And.intro rfl (And.intro rfl ?_)
 intro D
 change DoesX Tryz.prog 53 _ _ _ _
 refine DoesX.alone 17 (DoesX.of (fieldsFunc hs ?_))
 rw [hw]
 refine at2 (by decide) (by simp) (rd1 (rowStr [98,97,114,114,105,101,114]) (.str [98,97,114,114,105,101,114]) rfl rfl ?_)
 refine at2 (by decide) (by simp) (rd1 (rowStr [98,97,114,114,105,101,114]) (.str [98,97,114,114,105,101,114]) rfl rfl ?_)
 refine SX.drawR follows (by decide) ?_
 refine at2 (by decide) (by simp) (rd1 (rowStr [98,97,114,114,105,101,114]) (.str [98,97,114,114,105,101,114]) rfl rfl ?_)
 refine at2 (by decide) (by simp) (rd1 (rowStr [98,97,114,114,105,101,114]) (.str [98,97,114,114,105,101,114]) rfl rfl ?_)
 refine Or.inl (at2 (by decide) (by simp) ?_)
 change DoesX Tryz.prog 56 _ _ _ _
 refine DoesX.on 20 [0,1,2,3,4,5,6,7,8,9,10,11,12,13,14,15,17] _ _ (hr v hv hwf (fun t v' ht hv' hw'=>?_) (fun e v' ht hv' hw'=>?_))
 · have hb:=hl t ht
   have hk:=hK v' hv' hw'
   rw [show (tellD [98,97,114,114,105,101,114] r).2=[98,97,114,114,105,101,114]++t by simp only [tellD,ht]] at hk
   repeat' (first | refine And.intro rfl ?_ | refine And.intro (Or.inl (And.intro (by decide) (And.intro (by simp) rfl))) ?_ | refine And.intro (And.intro (by decide) (And.intro (by simp) rfl)) ?_ | refine And.intro (Exists.intro _ (Exists.intro _ (And.intro rfl (And.intro rfl rfl)))) ?_ | fail)
   refine And.intro (Nat.le_trans (Nat.add_le_add_left hb 7) (show 7+1000000000≤9223372036854775807 by decide)) ?_
   refine And.intro rfl (sayNone (show 16<20 by decide) ?_)
   exact hk
 · have hb:=he e ht
   have hk:=hK v' hv' hw'
   rw [show (tellD [98,97,114,114,105,101,114] r).2=errText e by simp only [tellD,ht]] at hk
   cases e with
   | no e =>
     refine And.intro rfl (sayNo hb _ v' _ _ _ _ fun A B=>?_)
     exact hk
   | pl e p =>
     refine And.intro rfl (sayPl hb.1 hb.2 _ v' _ _ _ _ fun A B C=>?_)
     exact hk

theorem line_finish (s:List UInt8) (hs:s.length≤1000000000) (d:DZ) (r:AnsZ) (hw:wordsF s=[[102,105,110,105,115,104]]) (hr:SaidX 59 d [[102,105,110,105,115,104]] r)
   (hl:∀ t,r.2=.ok t→t.length≤1000000000) (he:∀ e,r.2=.error e→okEZ e):LineX d s (tellD [102,105,110,105,115,104] r):=by
 refine ⟨fun {K} v hv hwf hK=>?_⟩
 refine doesD Tryz.func30 rfl (by decide) rfl rfl rfl rfl rfl rfl ⟨_,Tryz.func50,by decide,rfl⟩ (r:=16) (tc:=4) ?_
 refine And.intro rfl (And.intro rfl ?_)
 intro D
 change DoesX Tryz.prog 53 _ _ _ _
 refine DoesX.alone 17 (DoesX.of (fieldsFunc hs ?_))
 rw [hw]
 refine at2 (by decide) (by simp) (rd1 (rowStr [102,105,110,105,115,104]) (.str [102,105,110,105,115,104]) rfl rfl ?_)
 refine at2 (by decide) (by simp) (rd1 (rowStr [102,105,110,105,115,104]) (.str [102,105,110,105,115,104]) rfl rfl ?_)
 refine SX.drawR follows (by decide) ?_
 refine at2 (by decide) (by simp) (rd1 (rowStr [102,105,110,105,115,104]) (.str [102,105,110,105,115,104]) rfl rfl ?_)
 refine at2 (by decide) (by simp) (rd1 (rowStr [102,105,110,105,115,104]) (.str [102,105,110,105,115,104]) rfl rfl ?_)
 refine Or.inl (at2 (by decide) (by simp) ?_)
 change DoesX Tryz.prog 59 _ _ _ _
 refine DoesX.on 20 [0,1,2,3,4,5,6,7,8,9,10,11,12,13,14,15,17] _ _ (hr v hv hwf (fun t v' ht hv' hw'=>?_) (fun e v' ht hv' hw'=>?_))
 · have hb:=hl t ht
   have hk:=hK v' hv' hw'
   rw [show (tellD [102,105,110,105,115,104] r).2=[102,105,110,105,115,104]++t by simp only [tellD,ht]] at hk
   repeat' (first | refine And.intro rfl ?_ | refine And.intro (Or.inl (And.intro (by decide) (And.intro (by simp) rfl))) ?_ | refine And.intro (And.intro (by decide) (And.intro (by simp) rfl)) ?_ | refine And.intro (Exists.intro _ (Exists.intro _ (And.intro rfl (And.intro rfl rfl)))) ?_ | fail)
   refine And.intro (Nat.le_trans (Nat.add_le_add_left hb 6) (show 6+1000000000≤9223372036854775807 by decide)) ?_
   refine And.intro rfl (sayNone (show 16<20 by decide) ?_)
   exact hk
 · have hb:=he e ht
   have hk:=hK v' hv' hw'
   rw [show (tellD [102,105,110,105,115,104] r).2=errText e by simp only [tellD,ht]] at hk
   cases e with
   | no e =>
     refine And.intro rfl (sayNo hb _ v' _ _ _ _ fun A B=>?_)
     exact hk
   | pl e p =>
     refine And.intro rfl (sayPl hb.1 hb.2 _ v' _ _ _ _ fun A B C=>?_)
     exact hk

theorem line_judge (s:List UInt8) (hs:s.length≤1000000000) (d:DZ) (r:AnsZ) (hw:wordsF s=[[106,117,100,103,101]]) (hr:SaidX 60 d [[106,117,100,103,101]] r)
   (hl:∀ t,r.2=.ok t→t.length≤1000000000) (he:∀ e,r.2=.error e→okEZ e):LineX d s (tellD [106,117,100,103,101] r):=by
 refine ⟨fun {K} v hv hwf hK=>?_⟩
 refine doesD Tryz.func30 rfl (by decide) rfl rfl rfl rfl rfl rfl ⟨_,Tryz.func50,by decide,rfl⟩ (r:=16) (tc:=4) ?_
 refine And.intro rfl (And.intro rfl ?_)
 intro D
 change DoesX Tryz.prog 53 _ _ _ _
 refine DoesX.alone 17 (DoesX.of (fieldsFunc hs ?_))
 rw [hw]
 refine at2 (by decide) (by simp) (rd1 (rowStr [106,117,100,103,101]) (.str [106,117,100,103,101]) rfl rfl ?_)
 refine at2 (by decide) (by simp) (rd1 (rowStr [106,117,100,103,101]) (.str [106,117,100,103,101]) rfl rfl ?_)
 refine SX.drawR follows (by decide) ?_
 refine at2 (by decide) (by simp) (rd1 (rowStr [106,117,100,103,101]) (.str [106,117,100,103,101]) rfl rfl ?_)
 refine at2 (by decide) (by simp) (rd1 (rowStr [106,117,100,103,101]) (.str [106,117,100,103,101]) rfl rfl ?_)
 refine Or.inl (at2 (by decide) (by simp) ?_)
 change DoesX Tryz.prog 60 _ _ _ _
 refine DoesX.on 20 [0,1,2,3,4,5,6,7,8,9,10,11,12,13,14,15,17] _ _ (hr v hv hwf (fun t v' ht hv' hw'=>?_) (fun e v' ht hv' hw'=>?_))
 · have hb:=hl t ht
   have hk:=hK v' hv' hw'
   rw [show (tellD [106,117,100,103,101] r).2=[106,117,100,103,101]++t by simp only [tellD,ht]] at hk
   repeat' (first | refine And.intro rfl ?_ | refine And.intro (Or.inl (And.intro (by decide) (And.intro (by simp) rfl))) ?_ | refine And.intro (And.intro (by decide) (And.intro (by simp) rfl)) ?_ | refine And.intro (Exists.intro _ (Exists.intro _ (And.intro rfl (And.intro rfl rfl)))) ?_ | fail)
   refine And.intro (Nat.le_trans (Nat.add_le_add_left hb 5) (show 5+1000000000≤9223372036854775807 by decide)) ?_
   refine And.intro rfl (sayNone (show 16<20 by decide) ?_)
   exact hk
 · have hb:=he e ht
   have hk:=hK v' hv' hw'
   rw [show (tellD [106,117,100,103,101] r).2=errText e by simp only [tellD,ht]] at hk
   cases e with
   | no e =>
     refine And.intro rfl (sayNo hb _ v' _ _ _ _ fun A B=>?_)
     exact hk
   | pl e p =>
     refine And.intro rfl (sayPl hb.1 hb.2 _ v' _ _ _ _ fun A B C=>?_)
     exact hk

end Go.Mac
end

section
open Go Go.Proofs Go.Mac
set_option maxRecDepth 100000

namespace Go.Mac

theorem line_poke (s:List UInt8) (hs:s.length≤1000000000) (d:DZ) (r:AnsZ) (a:List UInt8) (hw:wordsF s=[[112,111,107,101],a]) (hr:SaidX 66 d [[112,111,107,101],a] r)
   (hl:∀ t,r.2=.ok t→t.length≤1000000000) (he:∀ e,r.2=.error e→okEZ e):LineX d s (tellD [112,111,107,101] r):=by
 refine ⟨fun {K} v hv hwf hK=>?_⟩
 refine doesD Tryz.func30 rfl (by decide) rfl rfl rfl rfl rfl rfl ⟨_,Tryz.func50,by decide,rfl⟩ (r:=16) (tc:=4) ?_
 refine And.intro rfl (And.intro rfl ?_)
 intro D
 change DoesX Tryz.prog 53 _ _ _ _
 refine DoesX.alone 17 (DoesX.of (fieldsFunc hs ?_))
 rw [hw]
 refine at2 (by decide) (by simp) (rd1 (rowStr [112,111,107,101]) (.str [112,111,107,101]) rfl rfl ?_)
 refine at2 (by decide) (by simp) (rd1 (rowStr [112,111,107,101]) (.str [112,111,107,101]) rfl rfl ?_)
 refine SX.drawR follows (by decide) ?_
 refine at2 (by decide) (by simp) (rd1 (rowStr [112,111,107,101]) (.str [112,111,107,101]) rfl rfl ?_)
 refine at2 (by decide) (by simp) (rd1 (rowStr [112,111,107,101]) (.str [112,111,107,101]) rfl rfl ?_)
 refine Or.inl (at2 (by decide) (by simp) ?_)
 change DoesX Tryz.prog 66 _ _ _ _
 refine DoesX.on 20 [0,1,2,3,4,5,6,7,8,9,10,11,12,13,14,15,17] _ _ (hr v hv hwf (fun t v' ht hv' hw'=>?_) (fun e v' ht hv' hw'=>?_))
 · have hb:=hl t ht
   have hk:=hK v' hv' hw'
   rw [show (tellD [112,111,107,101] r).2=[112,111,107,101]++t by simp only [tellD,ht]] at hk
   repeat' (first | refine And.intro rfl ?_ | refine And.intro (Or.inl (And.intro (by decide) (And.intro (by simp) rfl))) ?_ | refine And.intro (And.intro (by decide) (And.intro (by simp) rfl)) ?_ | refine And.intro (Exists.intro _ (Exists.intro _ (And.intro rfl (And.intro rfl rfl)))) ?_ | fail)
   refine And.intro (Nat.le_trans (Nat.add_le_add_left hb 4) (show 4+1000000000≤9223372036854775807 by decide)) ?_
   refine And.intro rfl (sayNone (show 16<20 by decide) ?_)
   exact hk
 · have hb:=he e ht
   have hk:=hK v' hv' hw'
   rw [show (tellD [112,111,107,101] r).2=errText e by simp only [tellD,ht]] at hk
   cases e with
   | no e =>
     refine And.intro rfl (sayNo hb _ v' _ _ _ _ fun A B=>?_)
     exact hk
   | pl e p =>
     refine And.intro rfl (sayPl hb.1 hb.2 _ v' _ _ _ _ fun A B C=>?_)
     exact hk

theorem line_round (s:List UInt8) (hs:s.length≤1000000000) (d:DZ) (r:AnsZ) (a:List UInt8) (hw:wordsF s=[[114,111,117,110,100],a]) (hr:SaidX 67 d [[114,111,117,110,100],a] r)
   (hl:∀ t,r.2=.ok t→t.length≤1000000000) (he:∀ e,r.2=.error e→okEZ e):LineX d s (tellD [114,111,117,110,100] r):=by
 refine ⟨fun {K} v hv hwf hK=>?_⟩
 refine doesD Tryz.func30 rfl (by decide) rfl rfl rfl rfl rfl rfl ⟨_,Tryz.func50,by decide,rfl⟩ (r:=16) (tc:=4) ?_
 refine And.intro rfl (And.intro rfl ?_)
 intro D
 change DoesX Tryz.prog 53 _ _ _ _
 refine DoesX.alone 17 (DoesX.of (fieldsFunc hs ?_))
 rw [hw]
 refine at2 (by decide) (by simp) (rd1 (rowStr [114,111,117,110,100]) (.str [114,111,117,110,100]) rfl rfl ?_)
 refine at2 (by decide) (by simp) (rd1 (rowStr [114,111,117,110,100]) (.str [114,111,117,110,100]) rfl rfl ?_)
 refine SX.drawR follows (by decide) ?_
 refine at2 (by decide) (by simp) (rd1 (rowStr [114,111,117,110,100]) (.str [114,111,117,110,100]) rfl rfl ?_)
 refine at2 (by decide) (by simp) (rd1 (rowStr [114,111,117,110,100]) (.str [114,111,117,110,100]) rfl rfl ?_)
 refine Or.inl (at2 (by decide) (by simp) ?_)
 change DoesX Tryz.prog 67 _ _ _ _
 refine DoesX.on 20 [0,1,2,3,4,5,6,7,8,9,10,11,12,13,14,15,17] _ _ (hr v hv hwf (fun t v' ht hv' hw'=>?_) (fun e v' ht hv' hw'=>?_))
 · have hb:=hl t ht
   have hk:=hK v' hv' hw'
   rw [show (tellD [114,111,117,110,100] r).2=[114,111,117,110,100]++t by simp only [tellD,ht]] at hk
   repeat' (first | refine And.intro rfl ?_ | refine And.intro (Or.inl (And.intro (by decide) (And.intro (by simp) rfl))) ?_ | refine And.intro (And.intro (by decide) (And.intro (by simp) rfl)) ?_ | refine And.intro (Exists.intro _ (Exists.intro _ (And.intro rfl (And.intro rfl rfl)))) ?_ | fail)
   refine And.intro (Nat.le_trans (Nat.add_le_add_left hb 5) (show 5+1000000000≤9223372036854775807 by decide)) ?_
   refine And.intro rfl (sayNone (show 16<20 by decide) ?_)
   exact hk
 · have hb:=he e ht
   have hk:=hK v' hv' hw'
   rw [show (tellD [114,111,117,110,100] r).2=errText e by simp only [tellD,ht]] at hk
   cases e with
   | no e =>
     refine And.intro rfl (sayNo hb _ v' _ _ _ _ fun A B=>?_)
     exact hk
   | pl e p =>
     refine And.intro rfl (sayPl hb.1 hb.2 _ v' _ _ _ _ fun A B C=>?_)
     exact hk

theorem line_run (s:List UInt8) (hs:s.length≤1000000000) (d:DZ) (r:AnsZ) (a b:List UInt8) (hw:wordsF s=[[114,117,110],a,b]) (hr:SaidX 68 d [[114,117,110],a,b] r)
   (hl:∀ t,r.2=.ok t→t.length≤1000000000) (he:∀ e,r.2=.error e→okEZ e):LineX d s (tellD [114,117,110] r):=by
 refine ⟨fun {K} v hv hwf hK=>?_⟩
 refine doesD Tryz.func30 rfl (by decide) rfl rfl rfl rfl rfl rfl ⟨_,Tryz.func50,by decide,rfl⟩ (r:=16) (tc:=4) ?_
 refine And.intro rfl (And.intro rfl ?_)
 intro D
 change DoesX Tryz.prog 53 _ _ _ _
 refine DoesX.alone 17 (DoesX.of (fieldsFunc hs ?_))
 rw [hw]
 refine at2 (by decide) (by simp) (rd1 (rowStr [114,117,110]) (.str [114,117,110]) rfl rfl ?_)
 refine at2 (by decide) (by simp) (rd1 (rowStr [114,117,110]) (.str [114,117,110]) rfl rfl ?_)
 refine SX.drawR follows (by decide) ?_
 refine at2 (by decide) (by simp) (rd1 (rowStr [114,117,110]) (.str [114,117,110]) rfl rfl ?_)
 refine at2 (by decide) (by simp) (rd1 (rowStr [114,117,110]) (.str [114,117,110]) rfl rfl ?_)
 refine Or.inl (at2 (by decide) (by simp) ?_)
 change DoesX Tryz.prog 68 _ _ _ _
 refine DoesX.on 20 [0,1,2,3,4,5,6,7,8,9,10,11,12,13,14,15,17] _ _ (hr v hv hwf (fun t v' ht hv' hw'=>?_) (fun e v' ht hv' hw'=>?_))
 · have hb:=hl t ht
   have hk:=hK v' hv' hw'
   rw [show (tellD [114,117,110] r).2=[114,117,110]++t by simp only [tellD,ht]] at hk
   repeat' (first | refine And.intro rfl ?_ | refine And.intro (Or.inl (And.intro (by decide) (And.intro (by simp) rfl))) ?_ | refine And.intro (And.intro (by decide) (And.intro (by simp) rfl)) ?_ | refine And.intro (Exists.intro _ (Exists.intro _ (And.intro rfl (And.intro rfl rfl)))) ?_ | fail)
   refine And.intro (Nat.le_trans (Nat.add_le_add_left hb 3) (show 3+1000000000≤9223372036854775807 by decide)) ?_
   refine And.intro rfl (sayNone (show 16<20 by decide) ?_)
   exact hk
 · have hb:=he e ht
   have hk:=hK v' hv' hw'
   rw [show (tellD [114,117,110] r).2=errText e by simp only [tellD,ht]] at hk
   cases e with
   | no e =>
     refine And.intro rfl (sayNo hb _ v' _ _ _ _ fun A B=>?_)
     exact hk
   | pl e p =>
     refine And.intro rfl (sayPl hb.1 hb.2 _ v' _ _ _ _ fun A B C=>?_)
     exact hk

end Go.Mac
end

section
open Go Go.Proofs Go.Mac
set_option maxRecDepth 100000

namespace Go.Mac

theorem line_state (s:List UInt8) (hs:s.length≤1000000000) (d:DZ) (r:AnsZ) (hw:wordsF s=[[115,116,97,116,101]]) (hr:SaidX 71 d [[115,116,97,116,101]] r)
   (hl:∀ t,r.2=.ok t→t.length≤1000000000) (he:∀ e,r.2=.error e→okEZ e):LineX d s (tellD [115,116,97,116,101] r):=by
 refine ⟨fun {K} v hv hwf hK=>?_⟩
 refine doesD Tryz.func30 rfl (by decide) rfl rfl rfl rfl rfl rfl ⟨_,Tryz.func50,by decide,rfl⟩ (r:=16) (tc:=4) ?_
 refine And.intro rfl (And.intro rfl ?_)
 intro D
 change DoesX Tryz.prog 53 _ _ _ _
 refine DoesX.alone 17 (DoesX.of (fieldsFunc hs ?_))
 rw [hw]
 refine at2 (by decide) (by simp) (rd1 (rowStr [115,116,97,116,101]) (.str [115,116,97,116,101]) rfl rfl ?_)
 refine at2 (by decide) (by simp) (rd1 (rowStr [115,116,97,116,101]) (.str [115,116,97,116,101]) rfl rfl ?_)
 refine SX.drawR follows (by decide) ?_
 refine at2 (by decide) (by simp) (rd1 (rowStr [115,116,97,116,101]) (.str [115,116,97,116,101]) rfl rfl ?_)
 refine at2 (by decide) (by simp) (rd1 (rowStr [115,116,97,116,101]) (.str [115,116,97,116,101]) rfl rfl ?_)
 refine Or.inl (at2 (by decide) (by simp) ?_)
 change DoesX Tryz.prog 71 _ _ _ _
 refine DoesX.on 20 [0,1,2,3,4,5,6,7,8,9,10,11,12,13,14,15,17] _ _ (hr v hv hwf (fun t v' ht hv' hw'=>?_) (fun e v' ht hv' hw'=>?_))
 · have hb:=hl t ht
   have hk:=hK v' hv' hw'
   rw [show (tellD [115,116,97,116,101] r).2=[115,116,97,116,101]++t by simp only [tellD,ht]] at hk
   repeat' (first | refine And.intro rfl ?_ | refine And.intro (Or.inl (And.intro (by decide) (And.intro (by simp) rfl))) ?_ | refine And.intro (And.intro (by decide) (And.intro (by simp) rfl)) ?_ | refine And.intro (Exists.intro _ (Exists.intro _ (And.intro rfl (And.intro rfl rfl)))) ?_ | fail)
   refine And.intro (Nat.le_trans (Nat.add_le_add_left hb 5) (show 5+1000000000≤9223372036854775807 by decide)) ?_
   refine And.intro rfl (sayNone (show 16<20 by decide) ?_)
   exact hk
 · have hb:=he e ht
   have hk:=hK v' hv' hw'
   rw [show (tellD [115,116,97,116,101] r).2=errText e by simp only [tellD,ht]] at hk
   cases e with
   | no e =>
     refine And.intro rfl (sayNo hb _ v' _ _ _ _ fun A B=>?_)
     exact hk
   | pl e p =>
     refine And.intro rfl (sayPl hb.1 hb.2 _ v' _ _ _ _ fun A B C=>?_)
     exact hk

theorem line_step (s:List UInt8) (hs:s.length≤1000000000) (d:DZ) (r:AnsZ) (a:List UInt8) (hw:wordsF s=[[115,116,101,112],a]) (hr:SaidX 72 d [[115,116,101,112],a] r)
   (hl:∀ t,r.2=.ok t→t.length≤1000000000) (he:∀ e,r.2=.error e→okEZ e):LineX d s (tellD [115,116,101,112] r):=by
 refine ⟨fun {K} v hv hwf hK=>?_⟩
 refine doesD Tryz.func30 rfl (by decide) rfl rfl rfl rfl rfl rfl ⟨_,Tryz.func50,by decide,rfl⟩ (r:=16) (tc:=4) ?_
 refine And.intro rfl (And.intro rfl ?_)
 intro D
 change DoesX Tryz.prog 53 _ _ _ _
 refine DoesX.alone 17 (DoesX.of (fieldsFunc hs ?_))
 rw [hw]
 refine at2 (by decide) (by simp) (rd1 (rowStr [115,116,101,112]) (.str [115,116,101,112]) rfl rfl ?_)
 refine at2 (by decide) (by simp) (rd1 (rowStr [115,116,101,112]) (.str [115,116,101,112]) rfl rfl ?_)
 refine SX.drawR follows (by decide) ?_
 refine at2 (by decide) (by simp) (rd1 (rowStr [115,116,101,112]) (.str [115,116,101,112]) rfl rfl ?_)
 refine at2 (by decide) (by simp) (rd1 (rowStr [115,116,101,112]) (.str [115,116,101,112]) rfl rfl ?_)
 refine Or.inl (at2 (by decide) (by simp) ?_)
 change DoesX Tryz.prog 72 _ _ _ _
 refine DoesX.on 20 [0,1,2,3,4,5,6,7,8,9,10,11,12,13,14,15,17] _ _ (hr v hv hwf (fun t v' ht hv' hw'=>?_) (fun e v' ht hv' hw'=>?_))
 · have hb:=hl t ht
   have hk:=hK v' hv' hw'
   rw [show (tellD [115,116,101,112] r).2=[115,116,101,112]++t by simp only [tellD,ht]] at hk
   repeat' (first | refine And.intro rfl ?_ | refine And.intro (Or.inl (And.intro (by decide) (And.intro (by simp) rfl))) ?_ | refine And.intro (And.intro (by decide) (And.intro (by simp) rfl)) ?_ | refine And.intro (Exists.intro _ (Exists.intro _ (And.intro rfl (And.intro rfl rfl)))) ?_ | fail)
   refine And.intro (Nat.le_trans (Nat.add_le_add_left hb 4) (show 4+1000000000≤9223372036854775807 by decide)) ?_
   refine And.intro rfl (sayNone (show 16<20 by decide) ?_)
   exact hk
 · have hb:=he e ht
   have hk:=hK v' hv' hw'
   rw [show (tellD [115,116,101,112] r).2=errText e by simp only [tellD,ht]] at hk
   cases e with
   | no e =>
     refine And.intro rfl (sayNo hb _ v' _ _ _ _ fun A B=>?_)
     exact hk
   | pl e p =>
     refine And.intro rfl (sayPl hb.1 hb.2 _ v' _ _ _ _ fun A B C=>?_)
     exact hk

end Go.Mac
end

section
open Go Go.Proofs Go.Mac
set_option maxRecDepth 100000

namespace Go.Mac

theorem join_mem {c b:UInt8}:∀ {ws:List (List UInt8)},b∈joinB c ws→b=c∨∃ p∈ws,b∈p
 | [],h=>by simp [joinB] at h
 | [p],h=>.inr ⟨p,by simp,h⟩
 | p::q::ws,h=>by
   rw [joinB] at h
   rcases List.mem_append.1 h with h | h
   · exact .inr ⟨p,by simp,h⟩
   · rcases List.mem_cons.1 h with h | h
     · exact .inl h
     · rcases join_mem h with h | ⟨x,hx,hb⟩
       · exact .inl h
       · exact .inr ⟨x,List.mem_cons_of_mem _ hx,hb⟩

theorem words_ok {ws:List (List UInt8)} (h:∀ p∈ws,p≠[]∧∀ b∈p,33≤b.toNat∧b.toNat<128):wordsF (joinB 32 ws)=ws∧(10:UInt8)∉joinB 32 ws:=by
 refine ⟨words_join (fun p hp=>⟨(h p hp).1,fun hb=>?_⟩) fun b hb=>?_,fun hb=>?_⟩
 · exact absurd ((h p hp).2 32 hb).1 (by decide)
 · rcases join_mem hb with rfl | ⟨p,hp,hb⟩
   · decide
   · exact ((h p hp).2 b hb).2
 · rcases join_mem hb with h1 | ⟨p,hp,hb⟩
   · cases h1
   · exact absurd ((h p hp).2 10 hb).1 (by decide)

abbrev wStep:List UInt8:=[115,116,101,112]
abbrev wRun:List UInt8:=[114,117,110]
abbrev wPoke:List UInt8:=[112,111,107,101]
abbrev wRound:List UInt8:=[114,111,117,110,100]
abbrev wJudge:List UInt8:=[106,117,100,103,101]
abbrev wFinish:List UInt8:=[102,105,110,105,115,104]
abbrev wBarrier:List UInt8:=[98,97,114,114,105,101,114]

theorem nums_one_len {x:Int} (h : -9223372036854775808≤x∧x≤9223372036854775807):(numsZ [x]).length≤500:=by
 have:=numsZ_len [x] (fun y hy=>by rw [List.mem_singleton.1 hy];exact h)
 simp only [List.length_singleton] at this
 omega

def cmdW (q:Int) (t:Nat):List (List UInt8) :=
 if q=0 then [wStep,Lib.itoa t] else if q=1 then [wRun,Lib.itoa t,[57]] else if q=2 then [wPoke,Lib.itoa t] else if q=3 then [wRound,[50]] else [wJudge]

def cmdR (q:Int) (t:Nat) (d:DZ):DZ×List UInt8 :=
 if q=0 then tellD wStep (stepD d (Lib.itoa t)) else if q=1 then tellD wRun (runD d (Lib.itoa t) [57]) else if q=2 then tellD wPoke (pokeD d (Lib.itoa t)) else if q=3 then tellD wRound (roundD d [50]) else tellD wJudge (judgeD d)

structure CmdOk (k n R b:Nat) (d:DZ) (line:List UInt8) (r:DZ×List UInt8):Prop where
 ln:line.length≤1000000000→LineX d line r
 dq:DQ k n R (b+4) r.1.m
 nl:(10:UInt8)∉r.2
 nll:(10:UInt8)∉line
 len:r.2.length≤1000
 jd:line=wJudge→hasPre r.2 (wJudge++[32])=true

section

variable {k n R b:Nat} {d:DZ}

theorem num_word {x:Nat} (h:x<100):Lib.itoa (x:Int)≠[]∧∀ b∈Lib.itoa (x:Int),33≤b.toNat∧b.toNat<128:=by
 obtain ⟨_,h2,h3⟩:=num_ok h
 exact ⟨h2,fun b hb=>by have:=h3 b hb;omega⟩

theorem num_len {x:Nat} (h:x<100):(Lib.itoa (x:Int)).length≤20:=itoa_len (by omega) (by omega)

theorem tell_nl {w:List UInt8} {r:AnsZ} (hw:(10:UInt8)∉w) (h:∀ s,r.2=.ok s→(10:UInt8)∉s):(10:UInt8)∉(tellD w r).2:=by
 unfold tellD
 cases hr:r.2 with
 | ok s =>
   dsimp only
   rw [List.mem_append]
   exact fun hc=>hc.elim hw (h s hr)
 | error e=>exact err_nl e

theorem tell_len {w:List UInt8} {r:AnsZ} (hw:w.length≤10) (h:∀ s,r.2=.ok s→s.length≤500) (he:∀ e,r.2=.error e→okEZ e):(tellD w r).2.length≤1000:=by
 unfold tellD
 cases hr:r.2 with
 | ok s =>
   have:=h s hr
   dsimp only
   rw [List.length_append]
   omega
 | error e =>
   have:=err_len (he e hr)
   dsimp only
   omega

theorem ok_step (hk:1≤k∧k≤6) (hn:1≤n∧n≤16) {t:Nat} (ht:t<100) (h:DQ k n R b d.m):CmdOk k n R b d (joinB 32 [wStep,Lib.itoa t]) (tellD wStep (stepD d (Lib.itoa t))):=by
 have hnw:=num_word ht
 obtain ⟨hw,hnl⟩:=words_ok (ws:=[wStep,Lib.itoa (t:Int)]) (fun p hp=>by
   simp only [List.mem_cons,List.not_mem_nil,or_false] at hp
   rcases hp with rfl | rfl
   · decide
   · exact hnw)
 have hr:stepD d (Lib.itoa (t:Int))=({ d with m:=(stepZ d.m t).2 },if (stepZ d.m t).1=0 then .ok (numsZ [((stepZ d.m t).2.k:Int)]) else .error (.no (stepZ d.m t).1)):=by rw [stepD,(num_ok ht).1]
 have hl:=num_len ht
 have hwf:=h.wf.step (t:Int)
 have hs:∀ s,(stepD d (Lib.itoa (t:Int))).2=.ok s→s.length≤500∧(10:UInt8)∉s:=fun s hs=>by
   rw [hr] at hs
   dsimp only at hs
   split at hs <;> cases hs
   have hkk:=hwf.k
   refine ⟨?_,nums_nl _⟩
   have:=numsZ_len [((stepZ d.m t).2.k:Int)] (fun x hx=>by simp at hx;omega)
   simp at this
   omega
 have he:∀ e,(stepD d (Lib.itoa (t:Int))).2=.error e→okEZ e:=fun e he=>by
   rw [hr] at he
   dsimp only at he
   split at he <;> cases he
   have:=step_num d.m t
   exact ⟨by omega,by omega⟩
 refine ⟨fun hll=>line_step _ hll d _ _ hw (saidStep d _ _ (by omega)) (fun s h=>by have:=(hs s h).1;omega) he,?_,tell_nl (by decide) fun s h=>(hs s h).2,hnl,tell_len (by decide) (fun s h=>(hs s h).1) he,fun hj=>?_⟩
 · show DQ k n R (b+4) (stepD d (Lib.itoa (t:Int))).1.m
   rw [hr]
   exact (h.step hk hn t).mono (by omega)
 · exact absurd (congrArg List.head? hj) (by simp [joinB])

theorem ok_run (hk:1≤k∧k≤6) (hn:1≤n∧n≤16) {t:Nat} (ht:t<100) (h:DQ k n R b d.m):CmdOk k n R b d (joinB 32 [wRun,Lib.itoa t,[57]]) (tellD wRun (runD d (Lib.itoa t) [57])):=by
 have hnw:=num_word ht
 obtain ⟨hw,hnl⟩:=words_ok (ws:=[wRun,Lib.itoa (t:Int),[57]]) (fun p hp=>by
   simp only [List.mem_cons,List.not_mem_nil,or_false] at hp
   rcases hp with rfl | rfl | rfl
   · decide
   · exact hnw
   · decide)
 have h9:countV [57]=.ok 9:=by
   have h3:tokV [57]=some 9:=by decide +kernel
   rw [countV,h3]
   rfl
 have hr:runD d (Lib.itoa (t:Int)) [57]=({ d with m:=(runM d.m (List.replicate 9 (t:Int))).2 },.ok (numsZ [((runM d.m (List.replicate 9 (t:Int))).1:Int)])):=by rw [runD,(num_ok ht).1];dsimp only;rw [h9]
 have hl:=num_len ht
 have hs:∀ s,(runD d (Lib.itoa (t:Int)) [57]).2=.ok s→s.length≤500∧(10:UInt8)∉s:=fun s hs=>by
   rw [hr] at hs
   cases hs
   have hle:=runM_le d.m (List.replicate 9 (t:Int))
   rw [List.length_replicate] at hle
   exact ⟨nums_one_len (by omega),nums_nl _⟩
 have he:∀ e,(runD d (Lib.itoa (t:Int)) [57]).2=.error e→okEZ e:=fun e he=>by
   rw [hr] at he
   cases he
 refine ⟨fun hll=>line_run _ hll d _ _ _ hw (saidRun d _ _ _ (by omega) (by decide)) (fun s h=>by have:=(hs s h).1;omega) he,?_,tell_nl (by decide) fun s h=>(hs s h).2,hnl,tell_len (by decide) (fun s h=>(hs s h).1) he,fun hj=>?_⟩
 · show DQ k n R (b+4) (runD d (Lib.itoa (t:Int)) [57]).1.m
   rw [hr]
   have h5:=(h.run hk hn (List.replicate 9 (t:Int))).mono (b':=b+4) (by omega)
   generalize (runM d.m (List.replicate 9 (t:Int)))=z at h5 ⊢
   exact h5
 · exact absurd (congrArg List.head? hj) (by simp [joinB])

theorem ok_poke (hk:1≤k∧k≤6) (hn:1≤n∧n≤16) {t:Nat} (ht:t<100) (h:DQ k n R b d.m):CmdOk k n R b d (joinB 32 [wPoke,Lib.itoa t]) (tellD wPoke (pokeD d (Lib.itoa t))):=by
 have hnw:=num_word ht
 obtain ⟨hw,hnl⟩:=words_ok (ws:=[wPoke,Lib.itoa (t:Int)]) (fun p hp=>by
   simp only [List.mem_cons,List.not_mem_nil,or_false] at hp
   rcases hp with rfl | rfl
   · decide
   · exact hnw)
 have hr:pokeD d (Lib.itoa (t:Int))=if pokeE d.m t=0 then ({ d with m:=pokeZ d.m t },.ok []) else (d,.error (.no (pokeE d.m t))):=by rw [pokeD,(num_ok ht).1]
 have hl:=num_len ht
 have hs:∀ s,(pokeD d (Lib.itoa (t:Int))).2=.ok s→s.length≤500∧(10:UInt8)∉s:=fun s hs=>by
   rw [hr] at hs
   split at hs <;> cases hs
   exact ⟨by simp,by simp⟩
 have he:∀ e,(pokeD d (Lib.itoa (t:Int))).2=.error e→okEZ e:=fun e he=>by
   rw [hr] at he
   split at he <;> cases he
   show _≤pokeE d.m t∧pokeE d.m t≤_
   unfold pokeE
   split
   · decide
   · split <;> decide
 refine ⟨fun hll=>line_poke _ hll d _ _ hw (saidPoke d _ _ (by omega)) (fun s h=>by have:=(hs s h).1;omega) he,?_,tell_nl (by decide) fun s h=>(hs s h).2,hnl,tell_len (by decide) (fun s h=>(hs s h).1) he,fun hj=>?_⟩
 · show DQ k n R (b+4) (pokeD d (Lib.itoa (t:Int))).1.m
   rw [hr]
   split
   · exact h.poke hk hn t
   · exact h.mono (by omega)
 · exact absurd (congrArg List.head? hj) (by simp [joinB])

theorem ok_round (hk:1≤k∧k≤6) (hn:1≤n∧n≤16) (h:DQ k n R b d.m):CmdOk k n R b d (joinB 32 [wRound,[50]]) (tellD wRound (roundD d [50])):=by
 obtain ⟨hw,hnl⟩:=words_ok (ws:=[wRound,[50]]) (by decide)
 have h2:tokV [50]=some 2:=by decide +kernel
 have hr:roundD d [50]=({ d with m:=(runM d.m (roundsL d.m.ps.length (d.m.ps.length*2))).2 },.ok (numsZ [((runM d.m (roundsL d.m.ps.length (d.m.ps.length*2))).1:Int)])):=by rw [roundD,h2];rfl
 have hs:∀ s,(roundD d [50]).2=.ok s→s.length≤500∧(10:UInt8)∉s:=fun s hs=>by
   rw [hr] at hs
   cases hs
   have hle:=runM_le d.m (roundsL d.m.ps.length (d.m.ps.length*2))
   rw [roundsL_length,h.ps] at hle
   rw [h.ps]
   exact ⟨nums_one_len (by omega),nums_nl _⟩
 have he:∀ e,(roundD d [50]).2=.error e→okEZ e:=fun e he=>by
   rw [hr] at he
   cases he
 refine ⟨fun hll=>line_round _ hll d _ _ hw (saidRound d _ _ (by decide)) (fun s h=>by have:=(hs s h).1;omega) he,?_,tell_nl (by decide) fun s h=>(hs s h).2,hnl,tell_len (by decide) (fun s h=>(hs s h).1) he,fun hj=>?_⟩
 · show DQ k n R (b+4) (roundD d [50]).1.m
   rw [hr]
   have h5:=(h.run hk hn (roundsL d.m.ps.length (d.m.ps.length*2))).mono (b':=b+4) (by omega)
   generalize (runM d.m (roundsL d.m.ps.length (d.m.ps.length*2)))=z at h5 ⊢
   exact h5
 · exact absurd (congrArg List.head? hj) (by simp [joinB])

theorem judge_is (hn:1≤n∧n≤16) (h:DQ k n R b d.m):judgeD d=(d,.ok (numsZ [allG n d.m.el,anyR d.m.el])):=by
 rw [judgeD,h.ps,if_pos hn.1,h.ok]

theorem ok_judge (hn:1≤n∧n≤16) (h:DQ k n R b d.m):CmdOk k n R b d (joinB 32 [wJudge]) (tellD wJudge (judgeD d)):=by
 obtain ⟨hw,hnl⟩:=words_ok (ws:=[wJudge]) (by decide)
 have hr:=judge_is hn h
 have hs:∀ s,(judgeD d).2=.ok s→s.length≤500∧(10:UInt8)∉s:=fun s hs=>by
   rw [hr] at hs
   cases hs
   have hb:=judge_bounds hn.1 h.ok
   have hel:=h.wf.el
   have hkk:=h.wf.k
   refine ⟨?_,nums_nl _⟩
   have:=numsZ_len [allG n d.m.el,anyR d.m.el] (fun x hx=>by simp at hx;omega)
   simp at this
   omega
 have he:∀ e,(judgeD d).2=.error e→okEZ e:=fun e he=>by
   rw [hr] at he
   cases he
 refine ⟨fun hll=>line_judge _ hll d _ hw (saidJudge d _) (fun s h=>by have:=(hs s h).1;omega) he,?_,tell_nl (by decide) fun s h=>(hs s h).2,hnl,tell_len (by decide) (fun s h=>(hs s h).1) he,fun _=>?_⟩
 · show DQ k n R (b+4) (judgeD d).1.m
   rw [hr]
   exact h.mono (by omega)
 · rw [hr,tellD]
   have e:numsZ [allG n d.m.el,anyR d.m.el]=32::(Lib.itoa (allG n d.m.el)++numsZ [anyR d.m.el]):=by simp [numsZ]
   dsimp only
   rw [e,hasPre]
   simp

theorem ok_cmd (hk:1≤k∧k≤6) (hn:1≤n∧n≤16) (q:Int) {t:Nat} (ht:t<100) (h:DQ k n R b d.m):CmdOk k n R b d (joinB 32 (cmdW q t)) (cmdR q t d):=by
 unfold cmdW cmdR
 split
 · exact ok_step hk hn ht h
 · split
   · exact ok_run hk hn ht h
   · split
     · exact ok_poke hk hn ht h
     · split
       · exact ok_round hk hn h
       · exact ok_judge hn h

end

end Go.Mac
end

section
open Go Go.Proofs Go.Mac
set_option maxRecDepth 100000

namespace Go.Mac

def txt (ls:List (List UInt8)):List UInt8:=(ls.map fun x=>x++[10]).flatten

theorem txt_join:∀ {ls:List (List UInt8)},ls≠[]→txt ls=joinB 10 ls++[10]
 | [],h=>absurd rfl h
 | [p],_=>by simp [txt,joinB]
 | p::q::ls,_=>by
   have ih:=txt_join (ls:=q::ls) (by simp)
   rw [txt,List.map_cons,List.flatten_cons,←txt,ih,joinB]
   simp

theorem trim_txt {ls:List (List UInt8)} (h:ls≠[]):trimSuf (txt ls) [10]=joinB 10 ls:=by
 rw [txt_join h,trimSuf,hasSuf]
 simp

theorem split_txt {ls:List (List UInt8)} (h:ls≠[]) (hf:∀ p∈ls,(10:UInt8)∉p):splitB 10 (trimSuf (txt ls) [10])=ls:=by rw [trim_txt h,split_join h hf]

theorem txt_append (a b:List (List UInt8)):txt (a++b)=txt a++txt b:=by simp [txt]

theorem txt_len {ls:List (List UInt8)} {c:Nat} (h:∀ p∈ls,p.length≤c):(txt ls).length≤ls.length*(c+1):=by
 induction ls with
 | nil=>simp [txt]
 | cons p ls ih =>
   have h1:=ih fun q hq=>h q (List.mem_cons_of_mem _ hq)
   have h2:=h p (by simp)
   rw [txt,List.map_cons,List.flatten_cons,←txt,List.length_append,List.length_append,List.length_singleton,show (p::ls).length=ls.length+1 from rfl,Nat.succ_mul]
   omega

theorem outN_txt (os:Nat→List UInt8):∀ M,outN os M=txt ((List.range M).map os)
 | 0=>rfl
 | M+1=>by
   rw [outN,outN_txt os M,List.range_succ,List.map_append,txt_append]
   simp [txt]

def firstL (k n R:Nat):List UInt8:=joinB 32 [wBarrier,kindName k,Lib.itoa n,Lib.itoa R]

abbrev cmdS (c:Int×Nat):List UInt8:=joinB 32 (cmdW c.1 c.2)

def dkD (k n R:Nat) (cs:List (Int×Nat)):Nat→DZ
 | 0=>⟨danceM k n R,[],false⟩
 | i+1=>(cmdR (cs.getD i (4,0)).1 (cs.getD i (4,0)).2 (dkD k n R cs i)).1

def dkF (k n R:Nat) (cs:List (Int×Nat)):DZ:={ dkD k n R cs cs.length with m:=finish (dkD k n R cs cs.length).m }

def dkDs (k n R:Nat) (cs:List (Int×Nat)):Nat→DZ
 | 0=>dz0
 | i+1=>if i≤cs.length then dkD k n R cs i else dkF k n R cs

def dkO (k n R:Nat) (cs:List (Int×Nat)):Nat→List UInt8
 | 0=>wBarrier++numsZ [(n:Int)]
 | i+1=>if i<cs.length then (cmdR (cs.getD i (4,0)).1 (cs.getD i (4,0)).2 (dkD k n R cs i)).2
   else if i=cs.length then (tellD wFinish (finishD (dkD k n R cs cs.length))).2 else (tellD wJudge (judgeD (dkF k n R cs))).2

section

variable {k n R:Nat} {cs:List (Int×Nat)}

theorem dk_dq (hk:1≤k∧k≤6) (hn:1≤n∧n≤16) (hR:R≤6) (hct:∀ c∈cs,c.2<100):∀ i,DQ k n R (R*costK k n+4*n+4*i) (dkD k n R cs i).m
 | 0=>⟨_,_,dance_begin hk hn (by omega)⟩
 | i+1=>by
   have h:=dk_dq hk hn hR hct i
   have hc:(cs.getD i (4,0)).2<100:=by
     rw [List.getD_eq_getElem?_getD]
     cases hi:cs[i]? with
     | none=>decide
     | some c=>exact hct c (List.mem_of_getElem? hi)
   have:=(ok_cmd hk hn (cs.getD i (4,0)).1 hc h).dq
   rw [show R*costK k n+4*n+4*(i+1)=R*costK k n+4*n+4*i+4 by omega]
   exact this

theorem dk_cmd (hk:1≤k∧k≤6) (hn:1≤n∧n≤16) (hR:R≤6) (hct:∀ c∈cs,c.2<100) {i:Nat} {c:Int×Nat} (hi:cs[i]? = some c) :
   CmdOk k n R (R*costK k n+4*n+4*i) (dkD k n R cs i) (cmdS c) (dkD k n R cs (i+1),dkO k n R cs (i+1)):=by
 have hlt:=(List.getElem?_eq_some_iff.1 hi).1
 have hg:cs.getD i (4,0)=c:=by rw [List.getD_eq_getElem?_getD,hi];rfl
 have h:=ok_cmd hk hn c.1 (hct c (List.mem_of_getElem? hi)) (dk_dq (cs:=cs) hk hn hR hct i)
 have e:(dkD k n R cs (i+1),dkO k n R cs (i+1))=cmdR c.1 c.2 (dkD k n R cs i):=by
   rw [dkD,dkO,if_pos hlt,hg]
 rw [e]
 exact h

theorem kname (hk:1≤k∧k≤6):kindName k≠[]∧(∀ b∈kindName k,33≤b.toNat∧b.toNat<128)∧kindV (kindName k)=some k∧(kindName k).length≤7:=by
 have:k=1∨k=2∨k=3∨k=4∨k=5∨k=6:=by omega
 rcases this with rfl | rfl | rfl | rfl | rfl | rfl <;> decide

theorem first_ok (hk:1≤k∧k≤6) (hn:1≤n∧n≤16) (hR:R≤6):(firstL k n R).length≤100∧(10:UInt8)∉firstL k n R∧firstL k n R≠wJudge∧∀ (_:(firstL k n R).length≤1000000000),LineX dz0 (firstL k n R) (⟨danceM k n R,[],false⟩,wBarrier++numsZ [(n:Int)]):=by
 obtain ⟨k1,k2,k3,k4⟩:=kname hk
 have hn1:=num_word (x:=n) (by omega)
 have hR1:=num_word (x:=R) (by omega)
 have hn2:=num_len (x:=n) (by omega)
 have hR2:=num_len (x:=R) (by omega)
 obtain ⟨hw,hnl⟩:=words_ok (ws:=[wBarrier,kindName k,Lib.itoa (n:Int),Lib.itoa (R:Int)]) (fun p hp=>by
   simp only [List.mem_cons,List.not_mem_nil,or_false] at hp
   rcases hp with rfl | rfl | rfl | rfl
   · decide
   · exact ⟨k1,k2⟩
   · exact hn1
   · exact hR1)
 have hb:barrierD dz0 (kindName k) (Lib.itoa (n:Int)) (Lib.itoa (R:Int))=(⟨danceM k n R,[],false⟩,.ok (numsZ [(n:Int)])):=by
   rw [barrierD,k3]
   dsimp only
   rw [(num_ok (x:=n) (by omega)).1]
   dsimp only
   rw [(num_ok (x:=R) (by omega)).1]
   dsimp only
   rw [if_neg (by omega),Int.toNat_natCast,Int.toNat_natCast]
 refine ⟨?_,hnl,fun h=>?_,fun hll=>?_⟩
 · rw [firstL]
   simp only [joinB,List.length_append,List.length_cons,List.length_nil]
   omega
 · exact absurd (congrArg List.head? h) (by simp [firstL,joinB])
 · have h:=line_barrier _ hll dz0 _ _ _ _ hw (saidBarrier dz0 _ _ _ _ (by omega) (by omega)) (fun t ht=>by rw [hb] at ht;cases ht;have:=nums_one_len (x:=(n:Int)) (by omega);omega) fun e he=>by rw [hb] at he;cases he
   rw [hb] at h
   exact h

theorem cmd_len (c:Int×Nat) (h:c.2<100):(cmdS c).length≤100:=by
 have h2:=num_len h
 show (joinB 32 (cmdW c.1 c.2)).length≤100
 unfold cmdW
 repeat' split
 all_goals (simp only [joinB,List.length_append,List.length_cons,List.length_nil];try omega)

end

end Go.Mac
end
