/- Texts that belong together; the first of them:  -/
import Derived.Test.YtollgfhpcidkgaaGreatDoorA18
import Derived.Test.YtollgfhpcidkgaaGreatDoorA19
import Derived.Test.YtollgfhpcidkgaaGreatDoorA13

section
open Go Go.Proofs Go.Mac
set_option maxRecDepth 100000

namespace Go.Mac

def nodeB:Option (List FC)→Int→Int→Bool
 | some [.int .i64 a,.int .i64 b],s,u=>a == s && b == u
 | _,_,_=>false

theorem nodeB_ok {o:Option (List FC)} {s u:Int} (h:nodeB o s u=true):o=some (rowNode s u):=by
 unfold nodeB at h
 split at h
 · simp only [Bool.and_eq_true,beq_iff_eq] at h
   rw [h.1,h.2]
 · cases h

def vI (n id j:Nat):Int:=if j<hgtN n then (nodeN n id j:Int) else -1

theorem path_small:((List.range 16).all fun m=>(List.range (m+1)).all fun id=>(List.range (hgtN (m+1))).all fun j =>
   nodeB (nodesF (m+1))[nodeN (m+1) id j]? (sizeN (m+1) id j) (vI (m+1) id (j+1)) && decide (nodeN (m+1) id j<firstN (m+1) (hgtN (m+1))∧firstN (m+1) (hgtN (m+1))≤20∧1≤sizeN (m+1) id j∧sizeN (m+1) id j≤2 ∧
     offP (combineP (m+1) id) (2*hgtN (m+1)-j)=8*hgtN (m+1)+4*(hgtN (m+1)-j)))=true:=by decide +kernel

theorem path_at {n id j:Nat} (hn:1≤n∧n≤16) (hid:id<n) (hj:j<hgtN n):(nodesF n)[nodeN n id j]? = some (rowNode (sizeN n id j) (vI n id (j+1)))∧nodeN n id j<firstN n (hgtN n)∧firstN n (hgtN n)≤20∧1≤sizeN n id j∧sizeN n id j≤2 ∧
   offP (combineP n id) (2*hgtN n-j)=8*hgtN n+4*(hgtN n-j):=by
 have h1:=all_range path_small (t:=n-1) (by omega)
 rw [show n-1+1=n by omega] at h1
 have h2:=all_range (all_range h1 hid) hj
 rw [Bool.and_eq_true] at h2
 exact ⟨nodeB_ok h2.1,of_decide_eq_true h2.2⟩

theorem hgt_le (n:Nat):1≤hgtN n∧hgtN n≤4:=by
 rw [hgtN]
 split
 · omega
 · split
   · omega
   · split <;> omega

def pathR (n id j:Nat):List (List FC):=(List.range j).map fun i=>[.int .i64 (nodeN n id i)]
theorem pathR_len (n id j:Nat):(pathR n id j).length=j:=by simp [pathR]
theorem pathR_succ (n id j:Nat):pathR n id (j+1)=pathR n id j++[[.int .i64 (nodeN n id j)]]:=by simp [pathR,List.range_succ]
theorem pathR_get {n id j i:Nat} (hi:i<j):(pathR n id j)[0+Int.toNat (i:Int)]? = some [.int .i64 (nodeN n id i)]:=by
 rw [Int.toNat_natCast,Nat.zero_add,pathR,List.getElem?_map,List.getElem?_range hi]
 rfl

theorem combU_off (n id h:Nat):∀ j,offP (combU n id h j) (combU n id h j).length=8*j
 | 0=>rfl
 | j+1=>by rw [combU,offP_app,combU_off n id h j];show 8*j+8=_;omega

theorem bodyQ_snoc (q:Nat→Nat) (P:List Pc) (x:Pc):bodyQ q 5 (P++[x])=bodyQ q 5 P++pcI q (5+offP P P.length) x:=by
 rw [bodyQ_app]
 show _++(pcI _ _ x++[])=_
 rw [List.append_nil]

section

variable {K:AV→List Nat→List PO→Prop}

theorem combineDown (x:Int) {h j:Nat} (hh:h≤4) (hj:j<h) (hx:x=(j:Int)-1) (hK:K (i64 ((5+(8*h+4*(h-j)):Nat):Int)) [] [.one [.f (.int .i64 h)]]):Does Tryz.prog 276 [i64 x,cv (.ptr 0 0)] [.one [.f (.int .i64 h)]] K:=by
 have e:IntKind.i64.wrap (IntKind.i64.wrap (5+IntKind.i64.wrap (8*(h:Int)))+IntKind.i64.wrap (4*IntKind.i64.wrap (IntKind.i64.wrap ((h:Int)-1)-x)))=((5+(8*h+4*(h-j)):Nat):Int):=by
   subst hx
   rw [wrap_i64 (8*(h:Int)) (by omega) (by omega),wrap_i64 (5+8*(h:Int)) (by omega) (by omega),wrap_i64 ((h:Int)-1) (by omega) (by omega),wrap_i64 ((h:Int)-1-((j:Int)-1)) (by omega) (by omega),wrap_i64 (4*_) (by omega) (by omega),wrap_i64 _ (by omega) (by omega)]
   omega
 rw [←e] at hK
 refine does Tryz.func276 rfl (by decide) ?_
 exact hK

set_option maxHeartbeats 2000000 in
theorem combineBody {n id:Nat} (hn:1≤n∧n≤16) (hid:id<n) (hK:K (cv (.slc 0 0 (bodyP (combineP n id)).length none false)) [] [.rows false 5 ((bodyP (combineP n id)).map rowIns)]):Does Tryz.prog 256 [i64 n,i64 id] [] K:=by
 obtain ⟨hh1,hh4⟩:=hgt_le n
 refine Does.keep 0 rfl ?_
 refine does Tryz.func256 rfl (by decide) ?_
 change Does Tryz.prog 255 _ _ _
 refine Does.alone 0 (combineNodes hn ?_)
 refine SS.nil 6 1 (by decide) rfl ?_
 have hv0:IntKind.i64.wrap ((id:Int).tdiv 2)=vI n id 0:=by
   rw [vI,if_pos (by omega),show ((2:Int))=((2:Nat):Int) from rfl,←Int.ofNat_tdiv,wrap_i64 _ (by omega) (by omega)]
   show ((id / 2:Nat):Int)=((0+id / 2 ^ 1:Nat):Int)
   rw [Nat.zero_add,Nat.pow_one]
 refine SS.loop (fun j:Nat=>j≤hgtN n) (fun j=>[(5,cv (.slc 0 0 (firstN n (hgtN n)) none false)),(6,cv (.slc 1 0 j none false)),(7,i64 (vI n id j))]) (fun j=>[.rows false 2 (nodesF n),.rows false 1 (pathR n id j)]) (fun j=>hgtN n-j) [1]
   (At.mk' [5,6,7] 0 (Nat.zero_le _) ⟨by rw [hv0];rfl,rfl⟩ rfl rfl (by simp) (by simp) (by simp)) ?_
 intro j hj
 change j≤hgtN n at hj
 refine S_r ?_
 refine brc_intro (fun h1=>?_) (fun h1=>?_)
 · have h1:vI n id j≥0:=of_decide_eq_true h1
   have hjh:j<hgtN n:=Classical.byContradiction fun h=>by rw [vI,if_neg h] at h1;omega
   have hv:vI n id j=(nodeN n id j:Int):=by rw [vI,if_pos hjh]
   obtain ⟨p1,p2,p3,p4,p5,p6⟩:=path_at hn hid hjh
   refine And.intro (Nat.le_of_ble_eq_true rfl) (Or.inl (And.intro rfl (And.intro (by simp [pathR_len]) (And.intro (by show (j+1)*8≤_;omega) (And.intro (by show j+1≤_;omega) ?_)))))
   refine at2 (a:=(0:Int)≤vI n id j) (b:=vI n id j<((firstN n (hgtN n):Nat):Int)) (by omega) (by omega) (rd1 (rowNode (sizeN n id j) (vI n id (j+1))) (.int .i64 (vI n id (j+1))) (by rw [hv,Int.toNat_natCast,Nat.zero_add];exact p1) rfl ?_)
   refine At.mk' [5,6,7] (j+1) ⟨hjh,by omega⟩ ⟨rfl,rfl⟩ ?_ rfl (by simp) (by simp) (by decide)
   rw [pathR_succ,←hv]
   rfl
 · have h1:¬vI n id j≥0:=of_decide_eq_false h1
   have hjh:¬j<hgtN n:=fun h=>h1 (by rw [vI,if_pos h];omega)
   obtain rfl:j=hgtN n:=by omega
   clear h1 hjh hj
   refine SS.nil 10 5 (by decide) rfl ?_
   generalize hhh:hgtN n=h at *
   refine SS.loop (fun j:Nat=>j≤h) (fun j=>[(5,cv (.slc 0 0 (firstN n h) none false)),(6,cv (.slc 1 0 h none false)),(8,cv (.ptr 2 0)),(9,cv (.func 276 [2])),(10,cv (.slc 3 0 (8*j) none false)),(34,cv (.slc 1 0 h none false)),(35,i64 h),(36,i64 j)])
     (fun j=>[.rows false 2 (nodesF n),.rows false 1 (pathR n id h),.one [.f (.int .i64 h)],.rows false 5 ((bodyQ (fun j=>5+offP (combineP n id) j) 5 (combU n id h j)).map rowIns)]) (fun j=>h-j) [1,3]
     (At.mk' [5,6,8,9,10,34,35,36] 0 (Nat.zero_le _) ⟨rfl,rfl⟩ rfl rfl (by simp) (by simp) (by simp)) ?_
   intro j hj
   change j≤h at hj
   have hlen:(bodyQ (fun j=>5+offP (combineP n id) j) 5 (combU n id h j)).length=8*j:=by rw [bodyQ_len,combU_off]
   refine S_r ?_
   refine brc_intro (fun h1=>?_) (fun h1=>?_)
   · have hjh:j<h:=by
       have:=of_decide_eq_true h1
       have:(j:Int)<(h:Int):=this
       omega
     obtain ⟨p1,p2,p3,p4,p5,p6⟩:=path_at hn hid (show j<hgtN n by omega)
     rw [hhh] at p2 p3 p6
     have w8:IntKind.i64.wrap (5+IntKind.i64.wrap (8*(j:Int)))=((5+8*j:Nat):Int):=by
       rw [wrap_i64 (8*(j:Int)) (by omega) (by omega),wrap_i64 _ (by omega) (by omega)]
       omega
     have wv:IntKind.i64.wrap (2*(nodeN n id j:Int))=((2*nodeN n id j:Nat):Int):=by
       rw [wrap_i64 _ (by omega) (by omega)]
       omega
     have wv1:IntKind.i64.wrap (IntKind.i64.wrap (2*(nodeN n id j:Int))+1)=((2*nodeN n id j+1:Nat):Int):=by
       rw [wv,wrap_i64 _ (by omega) (by omega)]
       omega
     have ws:IntKind.i64.wrap ((sizeN n id j:Int)-1)=(sizeN n id j:Int)-1:=wrap_i64 _ (by omega) (by omega)
     have wa8:IntKind.i64.wrap (IntKind.i64.wrap (5+IntKind.i64.wrap (8*(j:Int)))+8)=((5+8*j:Nat):Int)+8:=by
       rw [w8,wrap_i64 _ (by omega) (by omega)]
     have wa2:IntKind.i64.wrap (IntKind.i64.wrap (5+IntKind.i64.wrap (8*(j:Int)))+2)=((5+8*j+2:Nat):Int):=by
       rw [w8,wrap_i64 _ (by omega) (by omega)]
       omega
     have wj:IntKind.i64.wrap ((j:Int)-1)=(j:Int)-1:=wrap_i64 _ (by omega) (by omega)
     refine at2 (a:=(0:Int)≤(j:Int)) (b:=(j:Int)<(h:Int)) (by omega) (by omega) (rd1 [.int .i64 (nodeN n id j)] (.int .i64 (nodeN n id j)) (pathR_get hjh) rfl ?_)
     refine at2 (a:=(0:Int)≤(nodeN n id j:Int)) (b:=(nodeN n id j:Int)<((firstN n h:Nat):Int)) (by omega) (by omega) (rd1 (rowNode (sizeN n id j) (vI n id (j+1))) (.int .i64 (sizeN n id j)) (by rw [Int.toNat_natCast,Nat.zero_add];exact p1) rfl ?_)
     refine And.intro (Nat.le_of_ble_eq_true rfl) (Or.inl (And.intro rfl (And.intro (by simp [hlen]) (And.intro (by show (8*j+2)*40≤_;omega) (And.intro (by show 8*j+2≤_;omega) ?_)))))
     change Does Tryz.prog 274 _ _ _
     refine Does.alone 5 (awaitN wa2 wv1 (by omega) ?_)
     refine And.intro (Nat.le_of_ble_eq_true rfl) (Or.inl (And.intro rfl (And.intro (by simp [hlen]) (And.intro (by show (8*j+2+5)*40≤_;omega) (And.intro (by show 8*j+2+5≤_;omega) ?_)))))
     change Does Tryz.prog 276 _ _ _
     refine Does.on 6 [2] _ _ (combineDown (h:=h) (j:=j) _ hh4 hjh wj ?_)
     refine And.intro (Nat.le_of_ble_eq_true rfl) (Or.inl (And.intro rfl (And.intro (by simp [hlen];omega) (And.intro (by show (8*j+2+5+1)*40≤_;omega) (And.intro (by show 8*j+2+5+1≤_;omega) ?_)))))
     refine At.mk' [5,6,8,9,10,34,35,36] (j+1) ⟨hjh,by omega⟩ ⟨?_,rfl⟩ ?_ rfl (by simp) (by simp) (by decide)
     · rw [wrap_i64 (j+1) (by omega) (by omega)]
       rfl
     · rw [combU,bodyQ_snoc,combU_off,List.map_append]
       show _=[_,_,_,PO.rows false 5 (_++((([⟨8,1,((2*nodeN n id j:Nat):Int),1,0⟩,⟨11,1,(sizeN n id j:Int)-1,((5+8*j:Nat):Int)+8,0⟩]:List InsZ)++awI (5+8*j+2) (2*nodeN n id j+1)++([⟨10,((5+offP (combineP n id) (2*h-j):Nat):Int),0,0,0⟩]:List InsZ)).map rowIns))]
       rw [p6,List.map_append,List.map_append,wv,ws,wa8]
       rw [←List.append_assoc,←List.append_assoc]
       rfl
   · have hjh:¬j<h:=by
       have:=of_decide_eq_false h1
       have:¬(j:Int)<(h:Int):=this
       omega
     obtain rfl:j=h:=by omega
     have hQ0:combineP n id=combU n id j j++combD n id j:=by rw [combineP,hhh]
     refine SS.loop (fun q:Nat×List Pc=>q.1≤j∧combineP n id=q.2++combD n id q.1∧(bodyQ (fun j=>5+offP (combineP n id) j) 5 q.2).length+4*q.1≤100) (fun q=>[(5,cv (.slc 0 0 (firstN n j) none false)),(6,cv (.slc 1 0 j none false)),(10,cv (.slc 3 0 (bodyQ (fun j=>5+offP (combineP n id) j) 5 q.2).length none false)),(14,i64 (idxD q.1))])
       (fun q=>[.rows false 2 (nodesF n),.rows false 1 (pathR n id j),.one [.f (.int .i64 j)],.rows false 5 ((bodyQ (fun j=>5+offP (combineP n id) j) 5 q.2).map rowIns)]) (fun q=>q.1) [1,3]
       (At.mk' [5,6,10,14] (j,combU n id j j) ⟨Nat.le_refl _,hQ0,by show (bodyQ (fun j=>5+offP (combineP n id) j) 5 (combU n id j j)).length+4*j≤100;rw [hlen];omega⟩ ⟨?_,rfl⟩ rfl rfl (by simp) (by simp) (by simp)) ?_
     · rw [idxD_eq (by omega)]
       dsimp only
       rw [hlen]
     rintro ⟨i,Q⟩ ⟨hi,hQ,hB⟩
     change i≤j at hi
     change combineP n id=Q++combD n id i at hQ
     change (bodyQ (fun j=>5+offP (combineP n id) j) 5 Q).length+4*i≤100 at hB
     have hlQ:(bodyQ (fun j=>5+offP (combineP n id) j) 5 Q).length=offP Q Q.length:=bodyQ_len _ _ _
     cases i with
     | zero =>
       refine S_r ?_
       have hQe:combineP n id=Q:=by rw [hQ];exact List.append_nil _
       have e:bodyP (combineP n id)=bodyQ (fun j=>5+offP (combineP n id) j) 5 Q:=by
         rw [bodyP]
         rw [←hQe]
       rw [e] at hK
       exact ⟨4,[3],[.rows false 5 ((bodyQ (fun j=>5+offP (combineP n id) j) 5 Q).map rowIns)],cv (.slc 0 0 (bodyQ (fun j=>5+offP (combineP n id) j) 5 Q).length none false),rfl,rfl,by decide,by decide,rfl,rfl,rfl,rfl,rfl,hK⟩
     | succ i =>
       have hij:i<j:=by omega
       obtain ⟨p1,p2,p3,p4,p5,p6⟩:=path_at hn hid (show i<hgtN n by omega)
       rw [hhh] at p2 p3 p6
       have wv:IntKind.i64.wrap (2*(nodeN n id i:Int))=((2*nodeN n id i:Nat):Int):=by
         rw [wrap_i64 _ (by omega) (by omega)]
         omega
       have wv1:IntKind.i64.wrap (IntKind.i64.wrap (2*(nodeN n id i:Int))+1)=((2*nodeN n id i+1:Nat):Int):=by
         rw [wv,wrap_i64 _ (by omega) (by omega)]
         omega
       have hdn:IntKind.i64.wrap (idxD (i+1,Q).1-1)=idxD i:=idxD_eq (r:=i) (by omega)
       refine S_r ?_
       refine at2 (a:=(0:Int)≤(i:Int)) (b:=(i:Int)<(j:Int)) (by omega) (by omega) (rd1 [.int .i64 (nodeN n id i)] (.int .i64 (nodeN n id i)) (pathR_get hij) rfl ?_)
       refine And.intro (Nat.le_of_ble_eq_true rfl) (Or.inl (And.intro rfl (And.intro (by simp) (And.intro (by show ((bodyQ (fun j=>5+offP (combineP n id) j) 5 Q).length+2)*40≤_;omega) (And.intro (by show (bodyQ (fun j=>5+offP (combineP n id) j) 5 Q).length+2≤_;omega) ?_)))))
       refine at2 (a:=(0:Int)≤(nodeN n id i:Int)) (b:=(nodeN n id i:Int)<((firstN n j:Nat):Int)) (by omega) (by omega) (rd1 (rowNode (sizeN n id i) (vI n id (i+1))) (.int .i64 (sizeN n id i)) (by rw [Int.toNat_natCast,Nat.zero_add];exact p1) rfl ?_)
       change Does Tryz.prog 275 _ _ _
       refine Does.alone 5 (tellN (n:=sizeN n id i) wv1 rfl ?_)
       refine And.intro (Nat.le_of_ble_eq_true rfl) (Or.inl (And.intro rfl (And.intro (by simp) (And.intro (by show ((bodyQ (fun j=>5+offP (combineP n id) j) 5 Q).length+2+2)*40≤_;omega) (And.intro (by show (bodyQ (fun j=>5+offP (combineP n id) j) 5 Q).length+2+2≤_;omega) ?_)))))
       have hsn:bodyQ (fun j=>5+offP (combineP n id) j) 5 (Q++[Pc.dn (2*nodeN n id i) (sizeN n id i)])=bodyQ (fun j=>5+offP (combineP n id) j) 5 Q++(([⟨1,2,0,0,0⟩,⟨7,((2*nodeN n id i:Nat):Int),2,-1,0⟩]:List InsZ)++tlI (2*nodeN n id i+1) (sizeN n id i)):=bodyQ_snoc _ _ _
       refine At.mk' [5,6,10,14] (i,Q++[Pc.dn (2*nodeN n id i) (sizeN n id i)]) ⟨⟨by show i≤j;omega,?_,?_⟩,by show i<i+1;omega⟩ ⟨?_,rfl⟩ ?_ rfl (by simp) (by simp) (by decide)
       · show combineP n id=Q++[Pc.dn (2*nodeN n id i) (sizeN n id i)]++combD n id i
         rw [hQ,combD]
         simp
       · show (bodyQ (fun j=>5+offP (combineP n id) j) 5 (Q++[Pc.dn (2*nodeN n id i) (sizeN n id i)])).length+4*i≤100
         rw [hsn,List.length_append]
         show (bodyQ (fun j=>5+offP (combineP n id) j) 5 Q).length+4+4*i≤100
         omega
       · rw [hdn]
         dsimp only
         rw [hsn,List.length_append]
         rfl
       · dsimp only
         rw [hsn,List.map_append,←wv,List.map_append,←List.append_assoc]
         rfl

end

end Go.Mac
end

section
open Go Go.Proofs Go.Mac
set_option maxRecDepth 100000

namespace Go.Mac

section

variable {K:AV→List Nat→List PO→Prop}

theorem combineCode {n id R:Nat} (hn:1≤n∧n≤16) (hid:id<n) (hR:R≤20) (hb:(bodyP (combineP n id)).length≤10000) (hK:K (.tup [.c (.slc 0 0 (wholeZ R (bodyP (combineP n id))).length none true),okP]) [] [.rows false 5 ((wholeZ R (bodyP (combineP n id))).map rowIns)]) :
   Does Tryz.prog 211 [i64 n,i64 id,i64 R] [] K:=by
 rw [whole_len] at hK
 refine Does.keep 0 rfl ?_
 refine does Tryz.func211 rfl (by decide) ?_
 change Does Tryz.prog 252 _ _ _
 refine Does.alone 0 (partCheck hn hid hR ?_)
 change Does Tryz.prog 256 _ _ _
 refine Does.alone 0 (combineBody hn hid ?_)
 change Does Tryz.prog 253 _ _ _
 refine Does.on 1 [0] _ _ (partWhole (b:=bodyP (combineP n id)) (k:=(bodyP (combineP n id)).length) (R:=R) rfl hb (by omega) ?_)
 exact ⟨2,[1],[.rows false 5 ((wholeZ R (bodyP (combineP n id))).map rowIns)],.tup [.c (.slc 0 0 ((bodyP (combineP n id)).length+8) none true),okP],rfl,rfl,by decide,by decide,rfl,rfl,rfl,rfl,rfl,hK⟩

theorem combineCells {n:Nat} (hn:1≤n∧n≤16) (hK:K (.tup [.c (.f (.int .i64 ((2*firstN n (hgtN n):Nat):Int))),okP]) [] []):Does Tryz.prog 210 [i64 n] [] K:=by
 have h20:=(path_at hn (show 0<n by omega) (show 0<hgtN n from (hgt_le n).1)).2.2.1
 rw [show ((2*firstN n (hgtN n):Nat):Int)=IntKind.i64.wrap (2*((firstN n (hgtN n):Nat):Int)) by rw [wrap_i64 _ (by omega) (by omega)];omega] at hK
 refine Does.keep 0 rfl ?_
 refine does Tryz.func210 rfl (by decide) ?_
 change Does Tryz.prog 252 _ _ _
 refine Does.alone 0 (partCheck (id:=0) (R:=0) hn (by omega) (by omega) ?_)
 change Does Tryz.prog 255 _ _ _
 refine Does.alone 0 (combineNodes hn ?_)
 exact ⟨_,[],[],.tup [.c (.f (.int .i64 (IntKind.i64.wrap (2*((firstN n (hgtN n):Nat):Int))))),okP],rfl,rfl,by decide,by decide,rfl,rfl,rfl,rfl,rfl,hK⟩

end

theorem kindOk2 {n R:Nat} (hn:1≤n∧n≤16) (hR:R≤20):KindOk ((2:Nat):Int) n R (kindC 2 n) (kindPs 2 n R) :=
 kindOk (by decide) hn (fun K hK=>combineCells (K:=K) hn hK) fun id hid hb K hK=>combineCode (K:=K) hn hid hR hb hK

theorem kindAll {k n R:Nat} (hk:1≤k∧k≤6) (hn:1≤n∧n≤16) (hR:R≤20):KindOk (k:Int) n R (kindC k n) (kindPs k n R):=by
 have h:k=1∨k=2∨k=3∨k=4∨k=5∨k=6:=by omega
 rcases h with rfl | rfl | rfl | rfl | rfl | rfl
 · exact kindOk1 hn hR
 · exact kindOk2 hn hR
 · exact kindOk3 hn hR
 · exact kindOk4 hn hR
 · exact kindOk5 hn hR
 · exact kindOk6 hn hR

theorem pick6 (k:Int):∃ m:Nat,1+pickZ k 6=(m:Int)∧1≤m∧m≤6:=by
 have:=pickZ_lt k (n:=6) (by decide)
 exact ⟨(1+pickZ k 6).toNat,by omega,by omega,by omega⟩

end Go.Mac
end

section
open Go Go.Proofs Go.Mac
set_option maxRecDepth 100000

namespace Go.Mac

def kindV (s:List UInt8):Option Nat :=
 if s=[99,101,110,116,114,97,108] then some 1 else if s=[99,111,109,98,105,110,101] then some 2 else if s=[115,116,97,116,105,99] then some 3
 else if s=[115,112,114,101,97,100] then some 4 else if s=[116,111,117,114,110,101,121] then some 5 else if s=[109,99,115] then some 6 else none

def kindName:Nat→List UInt8
 | 1=>[99,101,110,116,114,97,108]
 | 2=>[99,111,109,98,105,110,101]
 | 3=>[115,116,97,116,105,99]
 | 4=>[115,112,114,101,97,100]
 | 5=>[116,111,117,114,110,101,121]
 | 6=>[109,99,115]
 | _=>[]

theorem kindV_some {s:List UInt8} {i:Nat} (h1:1≤i) (h6:i≤6) (hno:∀ j,1≤j→j<i→s≠kindName j) (h:s=kindName i):kindV s=some i:=by
 have hi:i=1∨i=2∨i=3∨i=4∨i=5∨i=6:=by omega
 subst h
 rcases hi with rfl | rfl | rfl | rfl | rfl | rfl <;> decide

theorem kindV_none {s:List UInt8} (hno:∀ j,1≤j→j<7→s≠kindName j):kindV s=none:=by
 have h1:=hno 1 (by decide) (by decide)
 have h2:=hno 2 (by decide) (by decide)
 have h3:=hno 3 (by decide) (by decide)
 have h4:=hno 4 (by decide) (by decide)
 have h5:=hno 5 (by decide) (by decide)
 have h6:=hno 6 (by decide) (by decide)
 simp only [kindName] at h1 h2 h3 h4 h5 h6
 simp only [kindV,if_neg h1,if_neg h2,if_neg h3,if_neg h4,if_neg h5,if_neg h6]

theorem kindV_range {s:List UInt8} {k:Nat} (h:kindV s=some k):1≤k∧k≤6:=by
 unfold kindV at h
 repeat' (split at h)
 all_goals first | (obtain rfl:=Option.some.inj h;decide) | cases h

section

variable {K:AV→List Nat→List PO→Prop} {J:CV→List Nat→List PO→Prop}

theorem danceKind {s:List UInt8} (h1:∀ k:Nat,kindV s=some k→K (.tup [.c (.f (.int .i64 k)),.c .niliface]) [] []) (h0:kindV s=none→K (.tup [.c (.f (.int .i64 0)),.c (eno 5)]) [] []):Does Tryz.prog 112 [st s] [] K:=by
 refine does Tryz.func112 rfl (by decide) ?_
 change Does Tryz.prog 166 _ _ _
 refine danceKinds ?_
 refine SS.loop (fun i:Nat=>i≤7∧∀ j,1≤j→j<i→s≠kindName j) (fun i=>[(0,st s),(6,.p (.agg kindsA)),(7,i64 i)]) (fun _=>[]) (fun i=>7-i) []
   (At.mk' [0,6,7] 0 ⟨by omega,fun j h1 h2=>by omega⟩ ⟨rfl,rfl⟩ rfl rfl (by simp) (by simp) (by simp)) ?_
 rintro i ⟨hi,hno⟩
 have hi7:i=0∨i=1∨i=2∨i=3∨i=4∨i=5∨i=6∨i=7:=by omega
 refine S_r ?_
 rcases hi7 with rfl | rfl | rfl | rfl | rfl | rfl | rfl | rfl
 · refine SS.inlR ?_
   refine And.intro (by decide) (And.intro (by decide) (Exists.intro _ (And.intro rfl ?_)))
   exact At.mk' [0,6,7] 1 ⟨⟨by omega,fun j h1 h2=>by omega⟩,by omega⟩ ⟨rfl,rfl⟩ rfl rfl (by simp) (by simp) (by simp)
 · refine SS.inlR ?_
   refine And.intro (by decide) (And.intro (by decide) (Exists.intro _ (And.intro rfl ?_)))
   refine brc_intro (fun hs=>?_) (fun hs=>?_)
   · have hs:(kindName 1 == s)=true:=hs
     exact h1 1 (kindV_some (by decide) (by decide) hno (eq_of_beq hs).symm)
   · have hs:(kindName 1 == s)=false:=hs
     refine At.mk' [0,6,7] 2 ⟨⟨by omega,fun j k1 k2 e=>?_⟩,by omega⟩ ⟨rfl,rfl⟩ rfl rfl (by simp) (by simp) (by simp)
     have hj:j<1∨j=1:=by omega
     rcases hj with hj | rfl
     · exact hno j k1 hj e
     · rw [e] at hs
       simp at hs
 · refine SS.inlR ?_
   refine And.intro (by decide) (And.intro (by decide) (Exists.intro _ (And.intro rfl ?_)))
   refine brc_intro (fun hs=>?_) (fun hs=>?_)
   · have hs:(kindName 2 == s)=true:=hs
     exact h1 2 (kindV_some (by decide) (by decide) hno (eq_of_beq hs).symm)
   · have hs:(kindName 2 == s)=false:=hs
     refine At.mk' [0,6,7] 3 ⟨⟨by omega,fun j k1 k2 e=>?_⟩,by omega⟩ ⟨rfl,rfl⟩ rfl rfl (by simp) (by simp) (by simp)
     have hj:j<2∨j=2:=by omega
     rcases hj with hj | rfl
     · exact hno j k1 hj e
     · rw [e] at hs
       simp at hs
 · refine SS.inlR ?_
   refine And.intro (by decide) (And.intro (by decide) (Exists.intro _ (And.intro rfl ?_)))
   refine brc_intro (fun hs=>?_) (fun hs=>?_)
   · have hs:(kindName 3 == s)=true:=hs
     exact h1 3 (kindV_some (by decide) (by decide) hno (eq_of_beq hs).symm)
   · have hs:(kindName 3 == s)=false:=hs
     refine At.mk' [0,6,7] 4 ⟨⟨by omega,fun j k1 k2 e=>?_⟩,by omega⟩ ⟨rfl,rfl⟩ rfl rfl (by simp) (by simp) (by simp)
     have hj:j<3∨j=3:=by omega
     rcases hj with hj | rfl
     · exact hno j k1 hj e
     · rw [e] at hs
       simp at hs
 · refine SS.inlR ?_
   refine And.intro (by decide) (And.intro (by decide) (Exists.intro _ (And.intro rfl ?_)))
   refine brc_intro (fun hs=>?_) (fun hs=>?_)
   · have hs:(kindName 4 == s)=true:=hs
     exact h1 4 (kindV_some (by decide) (by decide) hno (eq_of_beq hs).symm)
   · have hs:(kindName 4 == s)=false:=hs
     refine At.mk' [0,6,7] 5 ⟨⟨by omega,fun j k1 k2 e=>?_⟩,by omega⟩ ⟨rfl,rfl⟩ rfl rfl (by simp) (by simp) (by simp)
     have hj:j<4∨j=4:=by omega
     rcases hj with hj | rfl
     · exact hno j k1 hj e
     · rw [e] at hs
       simp at hs
 · refine SS.inlR ?_
   refine And.intro (by decide) (And.intro (by decide) (Exists.intro _ (And.intro rfl ?_)))
   refine brc_intro (fun hs=>?_) (fun hs=>?_)
   · have hs:(kindName 5 == s)=true:=hs
     exact h1 5 (kindV_some (by decide) (by decide) hno (eq_of_beq hs).symm)
   · have hs:(kindName 5 == s)=false:=hs
     refine At.mk' [0,6,7] 6 ⟨⟨by omega,fun j k1 k2 e=>?_⟩,by omega⟩ ⟨rfl,rfl⟩ rfl rfl (by simp) (by simp) (by simp)
     have hj:j<5∨j=5:=by omega
     rcases hj with hj | rfl
     · exact hno j k1 hj e
     · rw [e] at hs
       simp at hs
 · refine SS.inlR ?_
   refine And.intro (by decide) (And.intro (by decide) (Exists.intro _ (And.intro rfl ?_)))
   refine brc_intro (fun hs=>?_) (fun hs=>?_)
   · have hs:(kindName 6 == s)=true:=hs
     exact h1 6 (kindV_some (by decide) (by decide) hno (eq_of_beq hs).symm)
   · have hs:(kindName 6 == s)=false:=hs
     refine At.mk' [0,6,7] 7 ⟨⟨by omega,fun j k1 k2 e=>?_⟩,by omega⟩ ⟨rfl,rfl⟩ rfl rfl (by simp) (by simp) (by simp)
     have hj:j<6∨j=6:=by omega
     rcases hj with hj | rfl
     · exact hno j k1 hj e
     · rw [e] at hs
       simp at hs
 · exact h0 (kindV_none fun j k1 k2=>hno j k1 k2)

theorem partCheckE {n id R:Int} (h:n<1∨16<n∨id<0∨n≤id∨R<0∨20<R) (hK:K (cv (eno 2)) [] []):Does Tryz.prog 252 [i64 n,i64 id,i64 R] [] K:=by
 refine does Tryz.func252 rfl (by decide) ?_
 refine brc_intro (fun _=>?_) (fun h1=>?_)
 · exact hK
 have h1:=of_decide_eq_false h1
 refine brc_intro (fun _=>?_) (fun h2=>?_)
 · exact hK
 have h2:=of_decide_eq_false h2
 refine brc_intro (fun _=>?_) (fun h3=>?_)
 · exact hK
 have h3:=of_decide_eq_false h3
 refine brc_intro (fun _=>?_) (fun h4=>?_)
 · exact hK
 have h4:=of_decide_eq_false h4
 refine brc_intro (fun _=>?_) (fun h5=>?_)
 · exact hK
 have h5:=of_decide_eq_false h5
 refine brc_intro (fun _=>?_) (fun h6=>?_)
 · exact hK
 have h6:=of_decide_eq_false h6
 omega

theorem centralCellsE {n:Int} (h:n<1∨16<n) (hK:K (.tup [.c (.f (.int .i64 0)),.c (eno 2)]) [] []):Does Tryz.prog 208 [i64 n] [] K:=by
 refine does Tryz.func208 rfl (by decide) ?_
 change Does Tryz.prog 252 _ _ _
 refine Does.alone 0 (partCheckE (by omega) ?_)
 exact hK

theorem centralCodeE {n id R:Int} (h:n<1∨16<n∨id<0∨n≤id∨R<0∨20<R) (hK:K (.tup [.c .nilslc,.c (eno 2)]) [] []):Does Tryz.prog 209 [i64 n,i64 id,i64 R] [] K:=by
 refine does Tryz.func209 rfl (by decide) ?_
 change Does Tryz.prog 252 _ _ _
 refine Does.alone 0 (partCheckE h ?_)
 exact hK

theorem combineCellsE {n:Int} (h:n<1∨16<n) (hK:K (.tup [.c (.f (.int .i64 0)),.c (eno 2)]) [] []):Does Tryz.prog 210 [i64 n] [] K:=by
 refine does Tryz.func210 rfl (by decide) ?_
 change Does Tryz.prog 252 _ _ _
 refine Does.alone 0 (partCheckE (by omega) ?_)
 exact hK

theorem combineCodeE {n id R:Int} (h:n<1∨16<n∨id<0∨n≤id∨R<0∨20<R) (hK:K (.tup [.c .nilslc,.c (eno 2)]) [] []):Does Tryz.prog 211 [i64 n,i64 id,i64 R] [] K:=by
 refine does Tryz.func211 rfl (by decide) ?_
 change Does Tryz.prog 252 _ _ _
 refine Does.alone 0 (partCheckE h ?_)
 exact hK

theorem staticCellsE {n:Int} (h:n<1∨16<n) (hK:K (.tup [.c (.f (.int .i64 0)),.c (eno 2)]) [] []):Does Tryz.prog 212 [i64 n] [] K:=by
 refine does Tryz.func212 rfl (by decide) ?_
 change Does Tryz.prog 252 _ _ _
 refine Does.alone 0 (partCheckE (by omega) ?_)
 exact hK

theorem staticCodeE {n id R:Int} (h:n<1∨16<n∨id<0∨n≤id∨R<0∨20<R) (hK:K (.tup [.c .nilslc,.c (eno 2)]) [] []):Does Tryz.prog 213 [i64 n,i64 id,i64 R] [] K:=by
 refine does Tryz.func213 rfl (by decide) ?_
 change Does Tryz.prog 252 _ _ _
 refine Does.alone 0 (partCheckE h ?_)
 exact hK

theorem spreadCellsE {n:Int} (h:n<1∨16<n) (hK:K (.tup [.c (.f (.int .i64 0)),.c (eno 2)]) [] []):Does Tryz.prog 214 [i64 n] [] K:=by
 refine does Tryz.func214 rfl (by decide) ?_
 change Does Tryz.prog 252 _ _ _
 refine Does.alone 0 (partCheckE (by omega) ?_)
 exact hK

theorem spreadCodeE {n id R:Int} (h:n<1∨16<n∨id<0∨n≤id∨R<0∨20<R) (hK:K (.tup [.c .nilslc,.c (eno 2)]) [] []):Does Tryz.prog 215 [i64 n,i64 id,i64 R] [] K:=by
 refine does Tryz.func215 rfl (by decide) ?_
 change Does Tryz.prog 252 _ _ _
 refine Does.alone 0 (partCheckE h ?_)
 exact hK

theorem tourneyCellsE {n:Int} (h:n<1∨16<n) (hK:K (.tup [.c (.f (.int .i64 0)),.c (eno 2)]) [] []):Does Tryz.prog 216 [i64 n] [] K:=by
 refine does Tryz.func216 rfl (by decide) ?_
 change Does Tryz.prog 252 _ _ _
 refine Does.alone 0 (partCheckE (by omega) ?_)
 exact hK

theorem tourneyCodeE {n id R:Int} (h:n<1∨16<n∨id<0∨n≤id∨R<0∨20<R) (hK:K (.tup [.c .nilslc,.c (eno 2)]) [] []):Does Tryz.prog 217 [i64 n,i64 id,i64 R] [] K:=by
 refine does Tryz.func217 rfl (by decide) ?_
 change Does Tryz.prog 252 _ _ _
 refine Does.alone 0 (partCheckE h ?_)
 exact hK

theorem mcsCellsE {n:Int} (h:n<1∨16<n) (hK:K (.tup [.c (.f (.int .i64 0)),.c (eno 2)]) [] []):Does Tryz.prog 218 [i64 n] [] K:=by
 refine does Tryz.func218 rfl (by decide) ?_
 change Does Tryz.prog 252 _ _ _
 refine Does.alone 0 (partCheckE (by omega) ?_)
 exact hK

theorem mcsCodeE {n id R:Int} (h:n<1∨16<n∨id<0∨n≤id∨R<0∨20<R) (hK:K (.tup [.c .nilslc,.c (eno 2)]) [] []):Does Tryz.prog 219 [i64 n,i64 id,i64 R] [] K:=by
 refine does Tryz.func219 rfl (by decide) ?_
 change Does Tryz.prog 252 _ _ _
 refine Does.alone 0 (partCheckE h ?_)
 exact hK

theorem cellsE {k:Nat} {n:Int} (hk:1≤k∧k≤6) (h:n<1∨16<n) (hK:K (.tup [.c (.f (.int .i64 0)),.c (eno 2)]) [] []):Does Tryz.prog 167 [i64 k,i64 n] [] K:=by
 refine does Tryz.func167 rfl (by decide) ?_
 change Does Tryz.prog 220 _ _ _
 refine Does.alone 0 (danceName (by omega) fun s=>?_)
 change Does Tryz.prog 166 _ _ _
 refine Does.alone 0 (danceKinds ?_)
 have hk6:k=1∨k=2∨k=3∨k=4∨k=5∨k=6:=by omega
 rcases hk6 with rfl | rfl | rfl | rfl | rfl | rfl
 all_goals refine And.intro (by decide) (And.intro (by decide) (Exists.intro _ (And.intro rfl ?_)))
 · exact centralCellsE h hK
 · exact combineCellsE h hK
 · exact staticCellsE h hK
 · exact spreadCellsE h hK
 · exact tourneyCellsE h hK
 · exact mcsCellsE h hK

theorem codeE {k:Nat} {n id R:Int} (hk:1≤k∧k≤6) (h:n<1∨16<n∨id<0∨n≤id∨R<0∨20<R) (hK:K (.tup [.c .nilslc,.c (eno 2)]) [] []):Does Tryz.prog 168 [i64 k,i64 n,i64 id,i64 R] [] K:=by
 refine does Tryz.func168 rfl (by decide) ?_
 change Does Tryz.prog 220 _ _ _
 refine Does.alone 0 (danceName (by omega) fun s=>?_)
 change Does Tryz.prog 166 _ _ _
 refine Does.alone 0 (danceKinds ?_)
 have hk6:k=1∨k=2∨k=3∨k=4∨k=5∨k=6:=by omega
 rcases hk6 with rfl | rfl | rfl | rfl | rfl | rfl
 all_goals refine And.intro (by decide) (And.intro (by decide) (Exists.intro _ (And.intro rfl ?_)))
 · exact centralCodeE h hK
 · exact combineCodeE h hK
 · exact staticCodeE h hK
 · exact spreadCodeE h hK
 · exact tourneyCodeE h hK
 · exact mcsCodeE h hK

theorem danceNewE {k:Nat} {n R:Int} (hk:1≤k∧k≤6) (hb:n<1∨16<n∨R<0∨20<R) (hK:K (.tup [.c .nilptr,.c (eno 2)]) [] []):Does Tryz.prog 113 [i64 k,i64 n,i64 R] [] K:=by
 refine does Tryz.func113 rfl (by decide) ?_
 change Does Tryz.prog 167 _ _ _
 by_cases hn:n<1∨16<n
 · refine Does.alone 0 (cellsE hk hn ?_)
   exact hK
 · obtain ⟨N,rfl⟩:=Int.eq_ofNat_of_zero_le (show 0≤n by omega)
   have ho:=kindAll (k:=k) (n:=N) (R:=0) hk (by omega) (by omega)
   refine Does.alone 0 (danceCells ho.k6 ho.cells ?_)
   refine SS.loop (fun _:Unit=>True) (fun _=>[(0,i64 k),(1,i64 N),(2,i64 R),(10,cv .nilslc),(23,i64 N),(24,i64 0)]) (fun _=>[]) (fun _=>0) []
     (At.mk' [0,1,2,10,23,24] () trivial ⟨rfl,rfl⟩ rfl rfl (by simp) (by simp) (by simp)) ?_
   intro _ _
   refine S_r ?_
   refine brc_intro (fun hlt=>?_) (fun hlt=>?_)
   · refine SS.inlR ?_
     change Does Tryz.prog 168 _ _ _
     refine Does.alone 0 (codeE hk (by omega) ?_)
     exact hK
   · have:=of_decide_eq_false hlt
     omega

theorem mustCore {m:MZ} {v:VZ} (h:K (cv (.ptr 0 0)) [] (machS 0 m v)):DoesX Tryz.prog 26 [cv (.ptr 0 0),cv .niliface] (machS 0 m v) K J:=by
 refine doesX Tryz.func26 rfl (by decide) ?_
 exact h

theorem mustCore_bad {e:Int} (h:J (wrongE e) [] []):DoesX Tryz.prog 26 [cv .nilptr,cv (eno e)] [] K J:=by
 refine doesX Tryz.func26 rfl (by decide) ?_
 exact ⟨_,rfl,h⟩

def barrierD (d:DZ) (a b c:List UInt8):AnsZ :=
 match kindV a with
 | none=>(d,.error (.no 5))
 | some k =>
   match tokV b with
   | none=>(d,.error (.no 3))
   | some n =>
     match tokV c with
     | none=>(d,.error (.no 3))
     | some R=>if n<1∨16<n∨R<0∨20<R then (d,.error (.no 2)) else (⟨danceM k n.toNat R.toNat,[],false⟩,.ok (numsZ [n]))

theorem saidBarrier (d:DZ) (w a b c:List UInt8) (hb:b.length≤1000000000) (hc:c.length≤1000000000):SaidX 56 d [w,a,b,c] (barrierD d a b c):=by
 intro K J v hv hw hK hJ
 refine DoesX.keepB 17 moL rfl ?_
 refine DoesX.nilOut2 5 1 2 ?_
 refine doesX Tryz.func56 rfl (by decide) ?_
 refine at2 (by decide) (by simp) (rd1 (rowStr a) (.str a) rfl rfl ?_)
 change DoesX Tryz.prog 112 _ _ _ _
 refine DoesX.alone 17 (DoesX.of (danceKind (fun k hk=>?_) fun hk=>?_))
 · have hk6:=kindV_range hk
   change DoesX Tryz.prog 111 _ _ _ _
   refine DoesX.alone 17 (mustInt ?_)
   refine SX.drawR follows (by decide) ?_
   refine at2 (by decide) (by simp) (rd1 (rowStr b) (.str b) rfl rfl ?_)
   refine at2 (by decide) (by simp) (rd1 (rowStr c) (.str c) rfl rfl ?_)
   change DoesX Tryz.prog 109 _ _ _ _
   refine DoesX.on 17 [1,2,3] _ _ (number hb (fun n hn=>?_) fun hn=>?_)
   · repeat' (first | refine And.intro rfl ?_ | refine And.intro (And.intro (by decide) (And.intro (by simp) rfl)) ?_ | refine And.intro (Exists.intro _ (Exists.intro _ (And.intro rfl (And.intro rfl rfl)))) ?_ | fail)
     change DoesX Tryz.prog 109 _ _ _ _
     refine DoesX.on 17 [1,2,3] _ _ (number hc (fun R hR=>?_) fun hR=>?_)
     · have hr:barrierD d a b c=if n<1∨16<n∨R<0∨20<R then (d,.error (.no 2)) else (⟨danceM k n.toNat R.toNat,[],false⟩,.ok (numsZ [n])):=by
         rw [barrierD,hk];dsimp only;rw [hn];dsimp only;rw [hR]
       rw [hr] at hK hJ
       repeat' (first | refine And.intro rfl ?_ | refine And.intro (And.intro (by decide) (And.intro (by simp) rfl)) ?_ | refine And.intro (Exists.intro _ (Exists.intro _ (And.intro rfl (And.intro rfl rfl)))) ?_ | fail)
       change DoesX Tryz.prog 113 _ _ _ _
       by_cases hbad:n<1∨16<n∨R<0∨20<R
       · rw [if_pos hbad] at hJ
         refine DoesX.alone 17 (DoesX.of (danceNewE hk6 hbad ?_))
         change DoesX Tryz.prog 26 _ _ _ _
         refine DoesX.alone 17 (mustCore_bad ?_)
         refine ⟨_,rfl,?_⟩
         refine ⟨17,[0,1,2,3,4,5,6,7,8,9,10,11,12,13,14,15,16],_,_,rfl,by decide,by decide,by decide,by decide,by decide,rfl,rfl,rfl,rfl,rfl,_,rfl,hJ _ v rfl hv hw⟩
       · rw [if_neg hbad] at hK
         obtain ⟨N,rfl⟩:=Int.eq_ofNat_of_zero_le (show 0≤n by omega)
         obtain ⟨T,rfl⟩:=Int.eq_ofNat_of_zero_le (show 0≤R by omega)
         refine DoesX.alone 17 (DoesX.of (danceNew (kindAll (k:=k) (n:=N) (R:=T) hk6 (by omega) (by omega)) fun v1 hv1 w0=>?_))
         have w0:WF (danceM k N T):=w0
         change DoesX Tryz.prog 26 _ _ _ _
         refine DoesX.on 26 [17,18,19,20,21,22,23,24,25] _ _ (mustCore ?_)
         change DoesX Tryz.prog 110 _ _ _ _
         refine DoesX.on 27 [1,26] _ _ (DoesX.of (nums (n:=1) (l:=[(N:Int)]) rfl (by decide) (by simp;omega) ?_))
         refine ⟨_,rfl,rfl,?_⟩
         refine ⟨28,[0,1,2,3,4,5,17,18,19,20,21,22,23,24,25,27,16],_,_,rfl,by decide,by decide,by decide,by decide,by decide,rfl,rfl,rfl,?_,rfl,hK _ v1 rfl hv1 w0⟩
         rfl
     · have hr:barrierD d a b c=(d,.error (.no 3)):=by rw [barrierD,hk];dsimp only;rw [hn];dsimp only;rw [hR]
       rw [hr] at hJ
       refine ⟨_,rfl,?_⟩
       refine ⟨17,[0,1,2,3,4,5,6,7,8,9,10,11,12,13,14,15,16],_,_,rfl,by decide,by decide,by decide,by decide,by decide,rfl,rfl,rfl,rfl,rfl,_,rfl,hJ _ v rfl hv hw⟩
   · have hr:barrierD d a b c=(d,.error (.no 3)):=by rw [barrierD,hk];dsimp only;rw [hn]
     rw [hr] at hJ
     refine ⟨_,rfl,?_⟩
     refine ⟨17,[0,1,2,3,4,5,6,7,8,9,10,11,12,13,14,15,16],_,_,rfl,by decide,by decide,by decide,by decide,by decide,rfl,rfl,rfl,rfl,rfl,_,rfl,hJ _ v rfl hv hw⟩
 · have hr:barrierD d a b c=(d,.error (.no 5)):=by rw [barrierD,hk]
   rw [hr] at hJ
   change DoesX Tryz.prog 111 _ _ _ _
   refine DoesX.alone 17 (mustInt_bad ?_)
   refine ⟨_,rfl,?_⟩
   refine ⟨17,[0,1,2,3,4,5,6,7,8,9,10,11,12,13,14,15,16],_,_,rfl,by decide,by decide,by decide,by decide,by decide,rfl,rfl,rfl,rfl,rfl,_,rfl,hJ _ v rfl hv hw⟩

end

end Go.Mac
end
