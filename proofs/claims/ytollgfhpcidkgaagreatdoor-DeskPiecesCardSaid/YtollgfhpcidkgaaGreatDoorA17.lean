/- Texts that belong together; the first of them:  -/
import Derived.Test.YtollgfhpcidkgaaGreatDoorA16
import Derived.Test.YtollgfhpcidkgaaGreatDoorA15
import Derived.Test.YtollgfhpcidkgaaGreatDoorA12
import Derived.Test.YtollgfhpcidkgaaGreatDoorA6

section
open Go Go.Proofs Go.Mac
set_option maxRecDepth 100000
namespace Go.Mac
section
theorem lev_is {n:Nat} (hn:1≤n∧n≤16):isLev (n:Int) (levN n):=by
 have h:n=1∨n=2∨n=3∨n=4∨n=5∨n=6∨n=7∨n=8∨n=9∨n=10∨n=11∨n=12∨n=13∨n=14∨n=15∨n=16:=by omega
 rcases h with rfl | rfl | rfl | rfl | rfl | rfl | rfl | rfl | rfl | rfl | rfl | rfl | rfl | rfl | rfl | rfl <;> exact ⟨by decide,by decide,by decide⟩

theorem lev_le (n:Nat):levN n≤4:=by
 rw [levN]
 split
 · omega
 · split
   · omega
   · split
     · omega
     · split <;> omega

theorem spreadU_off (n id:Nat):∀ r,offP (spreadU n id r) (spreadU n id r).length=7*r
 | 0=>rfl
 | r+1=>by rw [spreadU,offP_app,spreadU_off n id r];show 7*r+7=_;omega

theorem two_pow {r:Nat} (hr:r<4):1≤2 ^ r∧2 ^ r≤8:=by
 have h:r=0∨r=1∨r=2∨r=3:=by omega
 rcases h with rfl | rfl | rfl | rfl <;> decide

theorem shl_one {r:Nat} (hr:r<4):IntKind.i64.wrap (1*2 ^ (min ((r:Int)).toNat (IntKind.bits .i64)))=((2 ^ r:Nat):Int):=by
 have h:r=0∨r=1∨r=2∨r=3:=by omega
 rcases h with rfl | rfl | rfl | rfl <;> decide

section

variable {K:KP}

theorem spreadBody {n id:Nat} (hn:1≤n∧n≤16) (hid:id<n) (hK:K (cv (.slc 0 0 (bodyN (spreadP n id)).length none false)) [] [.rows false 5 ((bodyN (spreadP n id)).map rowIns)]):Does Tryz.prog 259 [i64 n,i64 id] [] K:=by
 have hlen:∀ j,(bodyN (spreadU n id j)).length=7*j:=fun j=>by rw [bodyN_len,spreadU_off]
 have hL:=lev_le n
 refine Does.keep 0 rfl ?_
 refine does Tryz.func259 rfl (by decide) ?_
 change Does Tryz.prog 258 _ _ _
 refine Does.alone 0 (levels n (by omega) fun l hl=>?_)
 obtain rfl:l=levN n:=isLev_unique hl (lev_is hn)
 refine SS.nil 5 5 (by decide) rfl ?_
 refine SS.loop (fun r:Nat=>r≤levN n) (fun r=>[(0,i64 n),(1,i64 id),(5,cv (.slc 0 0 (7*r) none false)),(6,i64 (levN n)),(10,i64 (levN n)),(11,i64 r)]) (fun r=>[.rows false 5 ((bodyN (spreadU n id r)).map rowIns)]) (fun r=>levN n-r) [0]
  (At.mk' [0,1,5,6,10,11] 0 (Nat.zero_le _) ⟨rfl,rfl⟩ rfl rfl (by simp) (by simp) (by simp)) ?_
 intro r hr
 change r≤levN n at hr
 refine S_r ?_
 refine bZ (fun hlt=>?_) (fun hlt=>?_)
 · have hlt:r<levN n:=by
    have:=oTr hlt
    have:(r:Int)<(levN n:Int):=this
    omega
   have hr4:r<4:=by omega
   obtain ⟨p1,p8⟩:=two_pow hr4
   have hm:(id+2 ^ r) % n<n:=Nat.mod_lt _ (by omega)
   have hm4:(id+2 ^ r) % n*levN n≤16*4:=Nat.mul_le_mul (by omega) hL
   have hi4:id*levN n≤16*4:=Nat.mul_le_mul (by omega) hL
   have hw1:IntKind.i64.wrap (IntKind.i64.wrap ((IntKind.i64.wrap ((id:Int)+IntKind.i64.wrap (1*2 ^ (min ((r:Int)).toNat (IntKind.bits .i64))))).tmod (n:Int)*(levN n:Int))+(r:Int))=(((id+2 ^ r) % n*levN n+r:Nat):Int):=by
    rw [shl_one hr4,wrap_i64 ((id:Int)+((2 ^ r:Nat):Int)) (by omega) (by omega)]
    rw [show (id:Int)+((2 ^ r:Nat):Int)=((id+2 ^ r:Nat):Int) by omega,←Int.ofNat_tmod,←Int.natCast_mul]
    rw [wrap_i64 (((id+2 ^ r) % n*levN n:Nat):Int) (by omega) (by omega),wrap_i64 _ (by omega) (by omega)]
    omega
   have hw2:IntKind.i64.wrap (IntKind.i64.wrap ((id:Int)*(levN n:Int))+(r:Int))=((id*levN n+r:Nat):Int):=by
    rw [←Int.natCast_mul,wrap_i64 ((id*levN n:Nat):Int) (by omega) (by omega),wrap_i64 _ (by omega) (by omega)]
    omega
   have hw3:IntKind.i64.wrap (5+((7*r+2:Nat):Int))=((5+(7*r+2):Nat):Int):=by
    rw [wrap_i64 _ (by omega) (by omega)]
    omega
   refine nonzero_intro (by omega) ?_
   change Does Tryz.prog 275 _ _ _
   refine Does.alone 1 (tellN (n:=1) hw1 rfl ?_)
   refine And.intro (Nat.le_of_ble_eq_true rfl) (Or.inl (And.intro rfl (And.intro (by simp [hlen]) (And.intro (by show (7*r+2)*40≤_;omega) (And.intro (by show 7*r+2≤_;omega) ?_)))))
   change Does Tryz.prog 274 _ _ _
   refine Does.alone 2 (awaitN hw3 hw2 (by omega) ?_)
   refine And.intro (Nat.le_of_ble_eq_true rfl) (Or.inl (And.intro rfl (And.intro (by simp [hlen]) (And.intro (by show (7*r+2+5)*40≤_;omega) (And.intro (by show 7*r+2+5≤_;omega) ?_)))))
   refine At.mk' [0,1,5,6,10,11] (r+1) ⟨hlt,by omega⟩ ⟨?_,rfl⟩ ?_ rfl (by simp) (by simp) (by decide)
   · rw [wrap_i64 (r+1) (by omega) (by omega)]
     rfl
   · rw [spreadU,show spreadU n id r++[Pc.tl ((id+2 ^ r) % n*levN n+r) 1,Pc.aw (id*levN n+r)]=spreadU n id r++[Pc.tl ((id+2 ^ r) % n*levN n+r) 1]++[Pc.aw (id*levN n+r)] by simp,bodyN_snoc,bodyN_snoc,List.length_append,hlen,List.map_append,List.map_append]
     rfl
 · have hlt:¬(r:Int)<(levN n:Int):=oFa hlt
   obtain rfl:r=levN n:=by omega
   rw [spreadP,hlen] at hK
   exact ⟨1,[0],[.rows false 5 ((bodyN (spreadU n id (levN n))).map rowIns)],cv (.slc 0 0 (7*levN n) none false),rfl,rfl,by decide,by decide,rfl,rfl,rfl,rfl,rfl,hK⟩

theorem bit_and:∀ id,id<16→∀ r,r<5→IntKind.i64.wrap ((BitVec.ofInt (IntKind.bits .i64) (((id:Nat):Int).fdiv (2 ^ (min (((r:Nat):Int)).toNat (IntKind.bits .i64)))) &&& BitVec.ofInt (IntKind.bits .i64) 1).toNat)=((id / 2 ^ r % 2:Nat):Int):=by decide +kernel

theorem tourneyU_off (n id:Nat):∀ r,offP (tourneyU n id r) (tourneyU n id r).length≤5*r
 | 0=>Nat.le_refl _
 | r+1=>by
   rw [tourneyU,offP_app]
   have:=tourneyU_off n id r
   split
   · show _+5≤_
     omega
   · show _+0≤_
     omega

theorem lose_out {L id r:Nat} (hr:r≤4) (h:¬(r<L∧id / 2 ^ r % 2=0)):loseN L id (5-r) r=r:=by
 rw [show 5-r=(4-r)+1 by omega,loseN,if_neg h]

theorem lose_in {L id r:Nat} (hr:r≤4) (h:r<L∧id / 2 ^ r % 2=0):loseN L id (5-r) r=loseN L id (5-(r+1)) (r+1):=by
 rw [show 5-r=(4-r)+1 by omega,loseN,if_pos h,show 5-(r+1)=4-r by omega]

theorem tourneyP_is {n id r:Nat} (h:loseN (levN n) id 5 0=r):tourneyP n id=tourneyU n id r++((if r<levN n then [.tl ((id-2 ^ r)*levN n+r) 1,.aw (n*levN n+id)] else [])++tourneyD n id r):=by
 subst h
 rfl

def idxD:Nat→Int
 | 0=>-1
 | i+1=>i

theorem idxD_eq {r:Nat} (hr:r≤100):IntKind.i64.wrap ((r:Int)-1)=idxD r:=by
 rw [wrap_i64 _ (by omega) (by omega)]
 cases r with
 | zero=>rfl
 | succ r=>show ((r+1:Nat):Int)-1=r;omega

set_option maxHeartbeats 1000000 in
theorem tourneyBody {n id:Nat} (hn:1≤n∧n≤16) (hid:id<n) (hK:K (cv (.slc 0 0 (bodyN (tourneyP n id)).length none false)) [] [.rows false 5 ((bodyN (tourneyP n id)).map rowIns)]):Does Tryz.prog 260 [i64 n,i64 id] [] K:=by
 have hL:=lev_le n
 refine Does.keep 0 rfl ?_
 refine does Tryz.func260 rfl (by decide) ?_
 change Does Tryz.prog 258 _ _ _
 refine Does.alone 0 (levels n (by omega) fun l hl=>?_)
 obtain rfl:l=levN n:=isLev_unique hl (lev_is hn)
 refine SS.nil 5 5 (by decide) rfl ?_
 refine SS.loop (fun r:Nat=>r≤levN n∧loseN (levN n) id (5-r) r=loseN (levN n) id 5 0) (fun r=>[(0,i64 n),(1,i64 id),(5,cv (.slc 0 0 (bodyN (tourneyU n id r)).length none false)),(6,i64 (levN n)),(7,i64 r)]) (fun r=>[.rows false 5 ((bodyN (tourneyU n id r)).map rowIns)]) (fun r=>levN n-r) [0]
  (At.mk' [0,1,5,6,7] 0 ⟨Nat.zero_le _,rfl⟩ ⟨rfl,rfl⟩ rfl rfl (by simp) (by simp) (by simp)) ?_
 rintro r ⟨hr,hlo⟩
 have hUb:(bodyN (tourneyU n id r)).length≤20:=by
  have:=tourneyU_off n id r
  rw [bodyN_len]
  omega
 have hi4:id*levN n≤16*4:=Nat.mul_le_mul (by omega) hL
 have hn4:n*levN n≤16*4:=Nat.mul_le_mul (by omega) hL
 have hbit:=bit_and id (by omega) r (by omega)
 have hrw:IntKind.i64.wrap ((r:Int)+1)=((r+1:Nat):Int):=by
  rw [wrap_i64 _ (by omega) (by omega)]
  omega
 refine S_r ?_
 refine bZ (fun h1=>bZ (fun h2=>?_) (fun h2=>?_)) (fun h1=>?_)
 · have hlt:r<levN n:=by
    have:=oTr h1
    have:(r:Int)<(levN n:Int):=this
    omega
   have hb0:id / 2 ^ r % 2=0:=by
    have h3:(IntKind.i64.wrap _ == 0)=true:=h2
    rw [hbit] at h3
    have:((id / 2 ^ r % 2:Nat):Int)=0:=by simpa using h3
    omega
   have hr4:r<4:=by omega
   obtain ⟨p1,p8⟩:=two_pow hr4
   have hs:IntKind.i64.wrap ((id:Int)+IntKind.i64.wrap (1*2 ^ (min ((r:Int)).toNat (IntKind.bits .i64))))=((id+2 ^ r:Nat):Int):=by
    rw [shl_one hr4,wrap_i64 _ (by omega) (by omega)]
    omega
   have hw2:IntKind.i64.wrap (IntKind.i64.wrap ((id:Int)*(levN n:Int))+(r:Int))=((id*levN n+r:Nat):Int):=by
    rw [←Int.natCast_mul,wrap_i64 ((id*levN n:Nat):Int) (by omega) (by omega),wrap_i64 _ (by omega) (by omega)]
    omega
   have hw3:IntKind.i64.wrap (5+(((bodyN (tourneyU n id r)).length:Nat):Int))=((5+(bodyN (tourneyU n id r)).length:Nat):Int):=by
    rw [wrap_i64 _ (by omega) (by omega)]
    omega
   have hin:=lose_in (L:=levN n) (by omega) ⟨hlt,hb0⟩
   refine SS.inlR ?_
   refine bZ (fun h3=>?_) (fun h3=>?_)
   · have h3:id+2 ^ r<n:=by
      have h3:IntKind.i64.wrap ((id:Int)+IntKind.i64.wrap (1*2 ^ (min ((r:Int)).toNat (IntKind.bits .i64))))<(n:Int):=oTr h3
      rw [hs] at h3
      omega
     change Does Tryz.prog 274 _ _ _
     refine Does.alone 1 (awaitN hw3 hw2 (by omega) ?_)
     refine And.intro (Nat.le_of_ble_eq_true rfl) (Or.inl (And.intro rfl (And.intro (by simp) (And.intro (by show ((bodyN (tourneyU n id r)).length+5)*40≤_;omega) (And.intro (by show (bodyN (tourneyU n id r)).length+5≤_;omega) ?_)))))
     refine At.mk' [0,1,5,6,7] (r+1) ⟨⟨hlt,by rw [←hin];exact hlo⟩,by omega⟩ ⟨?_,rfl⟩ ?_ rfl (by simp) (by simp) (by decide)
     · rw [hrw,tourneyU,if_pos h3,bodyN_snoc,List.length_append]
       rfl
     · rw [tourneyU,if_pos h3,bodyN_snoc,List.map_append]
       rfl
   · have h3:¬id+2 ^ r<n:=by
      have h3:¬IntKind.i64.wrap ((id:Int)+IntKind.i64.wrap (1*2 ^ (min ((r:Int)).toNat (IntKind.bits .i64))))<(n:Int):=oFa h3
      rw [hs] at h3
      omega
     refine At.mk' [0,1,5,6,7] (r+1) ⟨⟨hlt,by rw [←hin];exact hlo⟩,by omega⟩ ⟨?_,rfl⟩ ?_ rfl (by simp) (by simp) (by decide)
     · rw [hrw,tourneyU,if_neg h3,List.append_nil]
     · rw [tourneyU,if_neg h3,List.append_nil]
       rfl
 · have hlt:r<levN n:=by
    have:=oTr h1
    have:(r:Int)<(levN n:Int):=this
    omega
   have hb1:¬id / 2 ^ r % 2=0:=fun e=>by
    have h3:(IntKind.i64.wrap _ == 0)=false:=h2
    rw [hbit,e] at h3
    simp at h3
   have hr4:r<4:=by omega
   obtain ⟨p1,p8⟩:=two_pow hr4
   have hge:2 ^ r≤id:=Classical.byContradiction fun h=>hb1 (by rw [Nat.div_eq_of_lt (by omega)])
   rw [lose_out (by omega) fun h=>hb1 h.2] at hlo
   have hP:=tourneyP_is (n:=n) hlo.symm
   rw [if_pos hlt] at hP
   have hs:IntKind.i64.wrap ((id:Int)-IntKind.i64.wrap (1*2 ^ (min ((r:Int)).toNat (IntKind.bits .i64))))=((id-2 ^ r:Nat):Int):=by
    rw [shl_one hr4,wrap_i64 _ (by omega) (by omega)]
    omega
   have hd4:(id-2 ^ r)*levN n≤16*4:=Nat.mul_le_mul (by omega) hL
   have hw1:IntKind.i64.wrap (IntKind.i64.wrap (IntKind.i64.wrap ((id:Int)-IntKind.i64.wrap (1*2 ^ (min ((r:Int)).toNat (IntKind.bits .i64))))*(levN n:Int))+(r:Int))=(((id-2 ^ r)*levN n+r:Nat):Int):=by
    rw [hs,←Int.natCast_mul,wrap_i64 (((id-2 ^ r)*levN n:Nat):Int) (by omega) (by omega),wrap_i64 _ (by omega) (by omega)]
    omega
   have hw2:IntKind.i64.wrap (IntKind.i64.wrap ((n:Int)*(levN n:Int))+(id:Int))=((n*levN n+id:Nat):Int):=by
    rw [←Int.natCast_mul,wrap_i64 ((n*levN n:Nat):Int) (by omega) (by omega),wrap_i64 _ (by omega) (by omega)]
    omega
   have hw3:IntKind.i64.wrap (5+(((bodyN (tourneyU n id r)).length+2:Nat):Int))=((5+((bodyN (tourneyU n id r)).length+2):Nat):Int):=by
    rw [wrap_i64 _ (by omega) (by omega)]
    omega
   refine bZ (fun _=>?_) (fun h=>absurd (show (r:Int)<(levN n:Int) by omega) (oFa h))
   change Does Tryz.prog 275 _ _ _
   refine Does.alone 1 (tellN (n:=1) hw1 rfl ?_)
   refine And.intro (Nat.le_of_ble_eq_true rfl) (Or.inl (And.intro rfl (And.intro (by simp) (And.intro (by show ((bodyN (tourneyU n id r)).length+2)*40≤_;omega) (And.intro (by show (bodyN (tourneyU n id r)).length+2≤_;omega) ?_)))))
   change Does Tryz.prog 274 _ _ _
   refine Does.alone 2 (awaitN hw3 hw2 (by omega) ?_)
   refine And.intro (Nat.le_of_ble_eq_true rfl) (Or.inl (And.intro rfl (And.intro (by simp) (And.intro (by show ((bodyN (tourneyU n id r)).length+2+5)*40≤_;omega) (And.intro (by show (bodyN (tourneyU n id r)).length+2+5≤_;omega) ?_)))))
   have hQ0:tourneyP n id=(tourneyU n id r++[Pc.tl ((id-2 ^ r)*levN n+r) 1]++[Pc.aw (n*levN n+id)])++tourneyD n id (r):=hP.trans (by simp)
   have hB0:(bodyN (tourneyU n id r++[Pc.tl ((id-2 ^ r)*levN n+r) 1]++[Pc.aw (n*levN n+id)])).length≤30:=by
    rw [bodyN_snoc,bodyN_snoc,List.length_append,List.length_append]
    show (bodyN (tourneyU n id r)).length+2+5≤30
    omega
   refine SS.loop (fun q:Nat×List Pc=>q.1≤r∧tourneyP n id=q.2++tourneyD n id q.1∧(bodyN q.2).length+2*q.1≤40) (fun q=>[(0,i64 n),(1,i64 id),(5,cv (.slc 0 0 (bodyN q.2).length none false)),(6,i64 (levN n)),(7,i64 (idxD q.1))]) (fun q=>[.rows false 5 ((bodyN q.2).map rowIns)]) (fun q=>q.1) [0]
    (At.mk' [0,1,5,6,7] (r,(tourneyU n id r++[Pc.tl ((id-2 ^ r)*levN n+r) 1]++[Pc.aw (n*levN n+id)])) ⟨Nat.le_refl _,hQ0,by show (bodyN (tourneyU n id r++[Pc.tl ((id-2 ^ r)*levN n+r) 1]++[Pc.aw (n*levN n+id)])).length+2*(r)≤40;omega⟩ ⟨?_,rfl⟩ ?_ rfl (by simp) (by simp) (by simp)) ?_
   · rw [idxD_eq (by omega)]
     dsimp only
     rw [bodyN_snoc,bodyN_snoc,List.length_append,List.length_append]
     rfl
   · dsimp only
     rw [bodyN_snoc,bodyN_snoc,List.map_append,List.map_append,List.length_append]
     rfl
   rintro ⟨i,Q⟩ ⟨hi,hQ,hB⟩
   change i≤r at hi
   change tourneyP n id=Q++tourneyD n id i at hQ
   change (bodyN Q).length+2*i≤40 at hB
   cases i with
   | zero =>
     refine S_r ?_
     rw [hQ,show tourneyD n id 0=[] from rfl,List.append_nil] at hK
     exact ⟨1,[0],[.rows false 5 ((bodyN Q).map rowIns)],cv (.slc 0 0 (bodyN Q).length none false),rfl,rfl,by decide,by decide,rfl,rfl,rfl,rfl,rfl,hK⟩
   | succ i =>
     have hi4:i<4:=by omega
     obtain ⟨q1,q8⟩:=two_pow hi4
     have hs4:IntKind.i64.wrap ((id:Int)+IntKind.i64.wrap (1*2 ^ (min ((i:Int)).toNat (IntKind.bits .i64))))=((id+2 ^ i:Nat):Int):=by
      rw [shl_one hi4,wrap_i64 _ (by omega) (by omega)]
      omega
     have hw4:IntKind.i64.wrap (IntKind.i64.wrap (IntKind.i64.wrap ((n:Int)*(levN n:Int))+(id:Int))+IntKind.i64.wrap (1*2 ^ (min ((i:Int)).toNat (IntKind.bits .i64))))=((n*levN n+id+2 ^ i:Nat):Int):=by
      rw [←Int.natCast_mul,wrap_i64 ((n*levN n:Nat):Int) (by omega) (by omega),wrap_i64 (((n*levN n:Nat):Int)+(id:Int)) (by omega) (by omega),shl_one hi4,wrap_i64 _ (by omega) (by omega)]
      omega
     have hdn:IntKind.i64.wrap (idxD (i+1,Q).1-1)=idxD i:=idxD_eq (r:=i) (by omega)
     refine S_r ?_
     refine SS.inlR ?_
     refine bZ (fun h5=>?_) (fun h5=>?_)
     · have h5:id+2 ^ i<n:=by
        have h5:IntKind.i64.wrap ((id:Int)+IntKind.i64.wrap (1*2 ^ (min ((i:Int)).toNat (IntKind.bits .i64))))<(n:Int):=oTr h5
        rw [hs4] at h5
        omega
       change Does Tryz.prog 275 _ _ _
       refine Does.alone 1 (tellN (n:=1) hw4 rfl ?_)
       refine And.intro (Nat.le_of_ble_eq_true rfl) (Or.inl (And.intro rfl (And.intro (by simp) (And.intro (by show ((bodyN Q).length+2)*40≤_;omega) (And.intro (by show (bodyN Q).length+2≤_;omega) ?_)))))
       refine At.mk' [0,1,5,6,7] (i,Q++[Pc.tl (n*levN n+id+2 ^ i) 1]) ⟨⟨by show i≤_;omega,?_,?_⟩,by show i<i+1;omega⟩ ⟨?_,rfl⟩ ?_ rfl (by simp) (by simp) (by decide)
       · show tourneyP n id=Q++[Pc.tl (n*levN n+id+2 ^ i) 1]++tourneyD n id i
         rw [hQ,tourneyD,if_pos h5]
         simp
       · show (bodyN (Q++[Pc.tl (n*levN n+id+2 ^ i) 1])).length+2*i≤40
         rw [bodyN_snoc,List.length_append]
         show (bodyN Q).length+2+2*i≤40
         omega
       · rw [hdn]
         dsimp only
         rw [bodyN_snoc,List.length_append]
         rfl
       · dsimp only
         rw [bodyN_snoc,List.map_append]
         rfl
     · have h5:¬id+2 ^ i<n:=by
        have h5:¬IntKind.i64.wrap ((id:Int)+IntKind.i64.wrap (1*2 ^ (min ((i:Int)).toNat (IntKind.bits .i64))))<(n:Int):=oFa h5
        rw [hs4] at h5
        omega
       refine At.mk' [0,1,5,6,7] (i,Q) ⟨⟨by show i≤_;omega,?_,by show (bodyN Q).length+2*i≤40;omega⟩,by show i<i+1;omega⟩ ⟨?_,rfl⟩ rfl rfl (by simp) (by simp) (by simp)
       · show tourneyP n id=Q++tourneyD n id i
         rw [hQ,tourneyD,if_neg h5]
         simp
       · rw [hdn]
 · have hge:¬r<levN n:=by
    have:=oFa h1
    have:¬(r:Int)<(levN n:Int):=this
    omega
   obtain rfl:r=levN n:=by omega
   rw [lose_out hL fun h=>hge h.1] at hlo
   have hP:=tourneyP_is (n:=n) hlo.symm
   rw [if_neg hge] at hP
   refine bZ (fun h=>absurd (oTr h) (by omega)) (fun _=>?_)
   have hQ0:tourneyP n id=(tourneyU n id (levN n))++tourneyD n id (levN n):=hP.trans (by simp)
   have hB0:(bodyN (tourneyU n id (levN n))).length≤30:=by
    omega
   refine SS.loop (fun q:Nat×List Pc=>q.1≤levN n∧tourneyP n id=q.2++tourneyD n id q.1∧(bodyN q.2).length+2*q.1≤40) (fun q=>[(0,i64 n),(1,i64 id),(5,cv (.slc 0 0 (bodyN q.2).length none false)),(6,i64 (levN n)),(7,i64 (idxD q.1))]) (fun q=>[.rows false 5 ((bodyN q.2).map rowIns)]) (fun q=>q.1) [0]
    (At.mk' [0,1,5,6,7] (levN n,(tourneyU n id (levN n))) ⟨Nat.le_refl _,hQ0,by show (bodyN (tourneyU n id (levN n))).length+2*(levN n)≤40;omega⟩ ⟨?_,rfl⟩ ?_ rfl (by simp) (by simp) (by simp)) ?_
   · rw [idxD_eq (by omega)]
   · rfl
   rintro ⟨i,Q⟩ ⟨hi,hQ,hB⟩
   change i≤levN n at hi
   change tourneyP n id=Q++tourneyD n id i at hQ
   change (bodyN Q).length+2*i≤40 at hB
   cases i with
   | zero =>
     refine S_r ?_
     rw [hQ,show tourneyD n id 0=[] from rfl,List.append_nil] at hK
     exact ⟨1,[0],[.rows false 5 ((bodyN Q).map rowIns)],cv (.slc 0 0 (bodyN Q).length none false),rfl,rfl,by decide,by decide,rfl,rfl,rfl,rfl,rfl,hK⟩
   | succ i =>
     have hi4:i<4:=by omega
     obtain ⟨q1,q8⟩:=two_pow hi4
     have hs4:IntKind.i64.wrap ((id:Int)+IntKind.i64.wrap (1*2 ^ (min ((i:Int)).toNat (IntKind.bits .i64))))=((id+2 ^ i:Nat):Int):=by
      rw [shl_one hi4,wrap_i64 _ (by omega) (by omega)]
      omega
     have hw4:IntKind.i64.wrap (IntKind.i64.wrap (IntKind.i64.wrap ((n:Int)*(levN n:Int))+(id:Int))+IntKind.i64.wrap (1*2 ^ (min ((i:Int)).toNat (IntKind.bits .i64))))=((n*levN n+id+2 ^ i:Nat):Int):=by
      rw [←Int.natCast_mul,wrap_i64 ((n*levN n:Nat):Int) (by omega) (by omega),wrap_i64 (((n*levN n:Nat):Int)+(id:Int)) (by omega) (by omega),shl_one hi4,wrap_i64 _ (by omega) (by omega)]
      omega
     have hdn:IntKind.i64.wrap (idxD (i+1,Q).1-1)=idxD i:=idxD_eq (r:=i) (by omega)
     refine S_r ?_
     refine SS.inlR ?_
     refine bZ (fun h5=>?_) (fun h5=>?_)
     · have h5:id+2 ^ i<n:=by
        have h5:IntKind.i64.wrap ((id:Int)+IntKind.i64.wrap (1*2 ^ (min ((i:Int)).toNat (IntKind.bits .i64))))<(n:Int):=oTr h5
        rw [hs4] at h5
        omega
       change Does Tryz.prog 275 _ _ _
       refine Does.alone 1 (tellN (n:=1) hw4 rfl ?_)
       refine And.intro (Nat.le_of_ble_eq_true rfl) (Or.inl (And.intro rfl (And.intro (by simp) (And.intro (by show ((bodyN Q).length+2)*40≤_;omega) (And.intro (by show (bodyN Q).length+2≤_;omega) ?_)))))
       refine At.mk' [0,1,5,6,7] (i,Q++[Pc.tl (n*levN n+id+2 ^ i) 1]) ⟨⟨by show i≤_;omega,?_,?_⟩,by show i<i+1;omega⟩ ⟨?_,rfl⟩ ?_ rfl (by simp) (by simp) (by decide)
       · show tourneyP n id=Q++[Pc.tl (n*levN n+id+2 ^ i) 1]++tourneyD n id i
         rw [hQ,tourneyD,if_pos h5]
         simp
       · show (bodyN (Q++[Pc.tl (n*levN n+id+2 ^ i) 1])).length+2*i≤40
         rw [bodyN_snoc,List.length_append]
         show (bodyN Q).length+2+2*i≤40
         omega
       · rw [hdn]
         dsimp only
         rw [bodyN_snoc,List.length_append]
         rfl
       · dsimp only
         rw [bodyN_snoc,List.map_append]
         rfl
     · have h5:¬id+2 ^ i<n:=by
        have h5:¬IntKind.i64.wrap ((id:Int)+IntKind.i64.wrap (1*2 ^ (min ((i:Int)).toNat (IntKind.bits .i64))))<(n:Int):=oFa h5
        rw [hs4] at h5
        omega
       refine At.mk' [0,1,5,6,7] (i,Q) ⟨⟨by show i≤_;omega,?_,by show (bodyN Q).length+2*i≤40;omega⟩,by show i<i+1;omega⟩ ⟨?_,rfl⟩ rfl rfl (by simp) (by simp) (by simp)
       · show tourneyP n id=Q++tourneyD n id i
         rw [hQ,tourneyD,if_neg h5]
         simp
       · rw [hdn]

end
end
section
def tells (c:Nat):Pc→Bool
 | .tl d _=>d == c
 | _=>false

def whereT (c:Nat):List Pc→Nat→Option Nat
 | [],_=>none
 | x::xs,k=>if tells c x=true then some k else whereT c xs (k+1)

def wrL (c:Nat):List (List Pc)→Nat→Option (Nat×Nat)
 | [],_=>none
 | Q::l,t=>match whereT c Q 0 with
   | some k=>some (t,k)
   | none=>wrL c l (t+1)

def ofL (l:List (List Pc)) (t:Nat):List Pc:=l.getD t []

def netB (l:List (List Pc)) (F:Nat):Bool :=
 (List.range l.length).all (fun t=>(List.range (ofL l t).length).all fun k=>match (ofL l t)[k]? with
   | some (.aw c)=>(match wrL c l 0 with
     | some (u,p)=>decide (u<l.length) && (match (ofL l u)[p]? with | some y=>tells c y | none=>false)
     | none=>false) && dpB (ofL l) (fun c=>wrL c l 0) F t k
   | some (.tl c s)=>(match wrL c l 0 with
     | some (u,p)=>u == t && p == k
     | none=>false) && decide (wtN l.length (ofL l) c≤s)
   | _=>false) &&
 (List.range l.length).all fun t=>(List.range l.length).all fun u=>t == u || (decide (0<(ofL l t).length) && kn (ofL l) (fun c=>wrL c l 0) F t ((ofL l t).length-1) u)

theorem all_range {n:Nat} {f:Nat→Bool} (h:(List.range n).all f=true) {t:Nat} (ht:t<n):f t=true:=List.all_eq_true.1 h t (List.mem_range.2 ht)

theorem netB_ok {l:List (List Pc)} {F:Nat} (h:netB l F=true):NetOk l.length (ofL l) (fun c=>wrL c l 0) ∧
  (∀ t,t<l.length→∀ u,u<l.length→t=u∨0<(ofL l t).length∧kn (ofL l) (fun c=>wrL c l 0) F t ((ofL l t).length-1) u=true) ∧
    ∀ t,t<l.length→∀ (k c:Nat),(ofL l t)[k]? = some (.aw c)→dpB (ofL l) (fun c=>wrL c l 0) F t k=true:=by
 rw [netB,Bool.and_eq_true] at h
 obtain ⟨h1,h2⟩:=h
 have key:∀ t,t<l.length→∀ (k:Nat) (y:Pc),(ofL l t)[k]? = some y→(match some y with
  | some (.aw c)=>(match wrL c l 0 with
    | some (u,p)=>decide (u<l.length) && (match (ofL l u)[p]? with | some y=>tells c y | none=>false)
    | none=>false) && dpB (ofL l) (fun c=>wrL c l 0) F t k
  | some (.tl c s)=>(match wrL c l 0 with
    | some (u,p)=>u == t && p == k
    | none=>false) && decide (wtN l.length (ofL l) c≤s)
  | _=>false)=true:=fun t ht k y hy=>by
  have:=all_range (all_range h1 ht) (List.getElem?_eq_some_iff.1 hy).1
  rw [hy] at this
  exact this
 refine ⟨⟨fun t ht y hy=>?_,fun t ht k c s hk=>?_,fun t ht k c hk=>?_⟩,fun t ht u hu=>?_,fun t ht k c hk=>?_⟩
 · obtain ⟨k,hk⟩:=List.mem_iff_getElem?.1 hy
   have:=key t ht k y hk
   cases y with
   | aw c=>exact .inl ⟨c,rfl⟩
   | tl c s =>
     simp only [Bool.and_eq_true] at this
     exact .inr ⟨c,s,rfl,oTr this.2⟩
   | up c s j=>cases this
   | dn c s=>cases this
 · have:=key t ht k _ hk
   simp only [Bool.and_eq_true] at this
   have h3:=this.1
   split at h3
   · rename_i u p he
     simp only [Bool.and_eq_true,beq_iff_eq] at h3
     rw [he,h3.1,h3.2]
   · cases h3
 · have:=key t ht k _ hk
   simp only [Bool.and_eq_true] at this
   have h3:=this.1
   split at h3
   · rename_i u p he
     simp only [Bool.and_eq_true,decide_eq_true_eq] at h3
     obtain ⟨h4,h5⟩:=h3
     cases hp:(ofL l u)[p]? with
     | none=>rw [hp] at h5;cases h5
     | some y =>
       rw [hp] at h5
       cases y with
       | tl d s =>
         have:d=c:=by simpa [tells] using h5
         subst this
         exact ⟨u,p,s,he,h4,hp⟩
       | _=>cases h5
   · cases h3
 · have:=all_range (all_range h2 ht) hu
   simp only [Bool.or_eq_true,beq_iff_eq,Bool.and_eq_true,decide_eq_true_eq] at this
   exact this
 · have:=key t ht k _ hk
   simp only [Bool.and_eq_true] at this
   exact this.2

def kindL (k n:Nat):List (List Pc):=(List.range n).map (kindP k n)

set_option maxHeartbeats 4000000 in
theorem net3:((List.range 16).all fun m=>netB (kindL 3 (m+1)) 8)=true:=by decide +kernel
set_option maxHeartbeats 4000000 in
theorem net6:((List.range 16).all fun m=>netB (kindL 6 (m+1)) 8)=true:=by decide +kernel
set_option maxHeartbeats 4000000 in
theorem net4:((List.range 16).all fun m=>netB (kindL 4 (m+1)) 8)=true:=by decide +kernel
set_option maxHeartbeats 4000000 in
theorem net5:((List.range 16).all fun m=>netB (kindL 5 (m+1)) 12)=true:=by decide +kernel
end
section
def comeN (n:Nat):Nat→Nat
 | 0=>n
 | j+1=>cntN n j

theorem cnt_come (n j:Nat):cntN n j=(comeN n j+1) / 2:=by cases j <;> rfl

abbrev rowNode (s u:Int):List FC:=[.int .i64 s,.int .i64 u]
def szI (n j i:Nat):Int:=((min 2 (comeN n j-2*i):Nat):Int)
def levR (n j k:Nat):List (List FC):=(List.range (cntN n j)).map fun i=>rowNode (szI n j i) (if i<k then ((firstN n (j+1)+i / 2:Nat):Int) else -1)
def newR (n j k:Nat):List (List FC):=(List.range k).map fun i=>rowNode (szI n j i) (-1)
def nodesU (n:Nat):Nat→List (List FC)
 | 0=>[]
 | j+1=>nodesU n j++levR n j (cntN n j)
def nodesF (n:Nat):List (List FC):=nodesU n (hgtN n-1)++newR n (hgtN n-1) (cntN n (hgtN n-1))

theorem levR_len (n j k:Nat):(levR n j k).length=cntN n j:=by simp [levR]
theorem newR_len (n j k:Nat):(newR n j k).length=k:=by simp [newR]
theorem nodesU_len (n:Nat):∀ j,(nodesU n j).length=firstN n j
 | 0=>rfl
 | j+1=>by rw [nodesU,List.length_append,nodesU_len n j,levR_len];rfl

theorem newR_succ (n j k:Nat):newR n j (k+1)=newR n j k++[rowNode (szI n j k) (-1)]:=by simp [newR,List.range_succ]
theorem newR_all (n j:Nat):newR n j (cntN n j)=levR n j 0:=by
 rw [newR,levR]
 refine List.map_congr_left fun i _=>?_
 rw [if_neg (Nat.not_lt_zero _)]

theorem levR_get {n j k i:Nat} (hi:i<cntN n j):(levR n j k)[i]? = some (rowNode (szI n j i) (if i<k then ((firstN n (j+1)+i / 2:Nat):Int) else -1)):=by
 rw [levR,List.getElem?_map,List.getElem?_range hi]
 rfl

theorem levR_set {n j k:Nat} (_hk:k<cntN n j):(levR n j k).set k (rowNode (szI n j k) ((firstN n (j+1)+k / 2:Nat):Int))=levR n j (k+1):=by
 refine List.ext_getElem? fun i=>?_
 by_cases hi:i<cntN n j
 · by_cases e:k=i
   · subst e
     rw [List.getElem?_set_self (by rw [levR_len];exact hi),levR_get hi,if_pos (Nat.lt_succ_self _)]
   · rw [List.getElem?_set_ne e,levR_get hi,levR_get hi]
     by_cases h:i<k
     · rw [if_pos h,if_pos (by omega)]
     · rw [if_neg h,if_neg (by omega)]
 · rw [List.getElem?_eq_none (by rw [List.length_set,levR_len];omega),List.getElem?_eq_none (by rw [levR_len];omega)]

theorem nodes_small:((List.range 16).all fun m=>(List.range (hgtN (m+1))).all fun j=>decide (comeN (m+1) j≤16∧1≤comeN (m+1) j∧firstN (m+1) (j+1)≤20∧(cntN (m+1) j=1↔j+1=hgtN (m+1))))=true:=by decide +kernel

theorem nodes_at {n j:Nat} (hn:1≤n∧n≤16) (hj:j<hgtN n):comeN n j≤16∧1≤comeN n j∧firstN n (j+1)≤20∧(cntN n j=1↔j+1=hgtN n):=by
 have h1:=all_range nodes_small (t:=n-1) (by omega)
 rw [show n-1+1=n by omega] at h1
 exact oTr (all_range h1 hj)

section

variable {K:KP}

set_option maxHeartbeats 1000000 in
theorem combineNodes {n:Nat} (hn:1≤n∧n≤16) (hK:K (cv (.slc 0 0 (firstN n (hgtN n)) none false)) [] [.rows false 2 (nodesF n)]):Does Tryz.prog 255 [i64 n] [] K:=by
 refine Does.keep 0 rfl ?_
 refine does Tryz.func255 rfl (by decide) ?_
 refine SS.nil 3 2 (by decide) rfl ?_
 have hh:0<hgtN n:=by rw [hgtN];split <;> (try split) <;> (try split) <;> omega
 refine SS.loop (fun j:Nat=>j<hgtN n) (fun j=>[(0,i64 (comeN n j)),(3,cv (.slc 0 0 (firstN n j) none false))]) (fun j=>[.rows false 2 (nodesU n j)]) (fun j=>hgtN n-j) [0]
  (At.mk' [0,3] 0 hh ⟨rfl,rfl⟩ rfl rfl (by simp) (by simp) (by simp)) ?_
 intro j hj
 change j<hgtN n at hj
 obtain ⟨hc16,hc1,hf20,hone⟩:=nodes_at hn hj
 have hcc:=cnt_come n j
 have hfj:firstN n (j+1)=firstN n j+cntN n j:=rfl
 refine S_r ?_
 refine SS.loop (fun i:Nat=>i≤cntN n j) (fun i=>[(0,i64 (comeN n j)),(3,cv (.slc 0 0 (firstN n j+i) none false)),(4,i64 (firstN n j)),(5,i64 ((2*i:Nat):Int))]) (fun i=>[.rows false 2 (nodesU n j++newR n j i)]) (fun i=>cntN n j-i) [0]
  (At.mk' [0,3,4,5] 0 (Nat.zero_le _) ⟨rfl,rfl⟩ (by rw [show newR n j 0=[] from rfl,List.append_nil];rfl) rfl (by simp) (by simp) (by simp)) ?_
 intro i hi
 change i≤cntN n j at hi
 refine S_r ?_
 refine bZ (fun h1=>?_) (fun h1=>?_)
 · have h1:((2*i:Nat):Int)<(comeN n j:Int):=oTr h1
   have hw:IntKind.i64.wrap ((comeN n j:Int)-((2*i:Nat):Int))=((comeN n j-2*i:Nat):Int):=by
    rw [wrap_i64 _ (by omega) (by omega)]
    omega
   have hs:(if IntKind.i64.wrap ((comeN n j:Int)-((2*i:Nat):Int))<(2:Int) then IntKind.i64.wrap ((comeN n j:Int)-((2*i:Nat):Int)) else (2:Int))=szI n j i:=by
    rw [hw,szI]
    split <;> omega
   refine And.intro (Nat.le_of_ble_eq_true rfl) (Or.inl (And.intro rfl (And.intro (by simp [nodesU_len,newR_len]) (And.intro (by show (firstN n j+i+1)*16≤_;omega) (And.intro (by show firstN n j+i+1≤_;omega) ?_)))))
   refine At.mk' [0,3,4,5] (i+1) ⟨by show i+1≤_;omega,by show cntN n j-(i+1)<cntN n j-i;omega⟩ ⟨?_,rfl⟩ ?_ rfl (by simp) (by simp) (by decide)
   · rw [wrap_i64 (((2*i:Nat):Int)+2) (by omega) (by omega),show ((2*i:Nat):Int)+2=((2*(i+1):Nat):Int) by omega]
     rfl
   · rw [newR_succ,←hs,←List.append_assoc]
     rfl
 · have h1:¬((2*i:Nat):Int)<(comeN n j:Int):=oFa h1
   obtain rfl:i=cntN n j:=by omega
   have hq:IntKind.i64.wrap ((IntKind.i64.wrap ((comeN n j:Int)+1)).tdiv 2)=(cntN n j:Int):=by
    rw [wrap_i64 ((comeN n j:Int)+1) (by omega) (by omega),show ((comeN n j:Int)+1)=((comeN n j+1:Nat):Int) by omega,show ((2:Int))=((2:Nat):Int) from rfl,←Int.ofNat_tdiv,←hcc,wrap_i64 _ (by omega) (by omega)]
   refine bZ (fun h2=>?_) (fun h2=>?_)
   · have h2:(IntKind.i64.wrap ((IntKind.i64.wrap ((comeN n j:Int)+1)).tdiv 2) == 1)=true:=h2
     rw [hq] at h2
     have h2:cntN n j=1:=by
      have:(cntN n j:Int)=1:=by simpa using h2
      omega
     have hje:=hone.1 h2
     obtain rfl:j=hgtN n-1:=by omega
     rw [show hgtN n=hgtN n-1+1 by omega] at hK
     exact ⟨1,[0],[.rows false 2 (nodesF n)],cv (.slc 0 0 (firstN n (hgtN n-1)+cntN n (hgtN n-1)) none false),rfl,rfl,by decide,by decide,rfl,rfl,rfl,rfl,rfl,hK⟩
   · have h2:(IntKind.i64.wrap ((IntKind.i64.wrap ((comeN n j:Int)+1)).tdiv 2) == 1)=false:=h2
     rw [hq] at h2
     have h2:cntN n j≠1:=fun e=>by rw [e] at h2;simp at h2
     have hje:j+1<hgtN n:=by
      have:=fun h=>h2 (hone.2 h)
      omega
     refine SS.loop (fun k:Nat=>k≤cntN n j) (fun k=>[(0,i64 (cntN n j)),(3,cv (.slc 0 0 (firstN n j+cntN n j) none false)),(4,i64 (firstN n j)),(6,i64 ((firstN n j+k:Nat):Int))]) (fun k=>[.rows false 2 (nodesU n j++levR n j k)]) (fun k=>cntN n j-k) [0]
      (At.mk' [0,3,4,6] 0 (Nat.zero_le _) ⟨by rw [hq];rfl,rfl⟩ (by rw [newR_all];rfl) rfl (by simp) (by simp) (by simp)) ?_
     intro k hk
     change k≤cntN n j at hk
     refine S_r ?_
     refine bZ (fun h3=>?_) (fun h3=>?_)
     · have h3:((firstN n j+k:Nat):Int)<((firstN n j+cntN n j:Nat):Int):=oTr h3
       have hkl:k<cntN n j:=by omega
       have hu:IntKind.i64.wrap (((firstN n j+cntN n j:Nat):Int)+IntKind.i64.wrap ((IntKind.i64.wrap (((firstN n j+k:Nat):Int)-(firstN n j:Int))).tdiv 2))=((firstN n (j+1)+k / 2:Nat):Int):=by
        rw [wrap_i64 (((firstN n j+k:Nat):Int)-(firstN n j:Int)) (by omega) (by omega),show (((firstN n j+k:Nat):Int)-(firstN n j:Int))=((k:Nat):Int) by omega,show ((2:Int))=((2:Nat):Int) from rfl,←Int.ofNat_tdiv,wrap_i64 ((k / 2:Nat):Int) (by omega) (by omega),wrap_i64 _ (by omega) (by omega)]
        omega
       have hg:(nodesU n j++levR n j k)[0+Int.toNat ((firstN n j+k:Nat):Int)]? = some (rowNode (szI n j k) (-1)):=by
        rw [Int.toNat_natCast,Nat.zero_add,List.getElem?_append_right (by rw [nodesU_len];omega),nodesU_len,Nat.add_sub_cancel_left,levR_get hkl,if_neg (Nat.lt_irrefl _)]
       refine at2 (a:=(0:Int)≤((firstN n j+k:Nat):Int)) (b:=((firstN n j+k:Nat):Int)<((firstN n j+cntN n j:Nat):Int)) (by omega) (by omega) (wrF (rowNode (szI n j k) (-1)) (.int .i64 (IntKind.i64.wrap (((firstN n j+cntN n j:Nat):Int)+IntKind.i64.wrap ((IntKind.i64.wrap (((firstN n j+k:Nat):Int)-(firstN n j:Int))).tdiv 2)))) hg rfl (by show 0+1<2;omega) ?_)
       refine At.mk' [0,3,4,6] (k+1) ⟨by show k+1≤_;omega,by show cntN n j-(k+1)<cntN n j-k;omega⟩ ⟨?_,rfl⟩ ?_ rfl (by simp) (by simp) (by decide)
       · rw [wrap_i64 (((firstN n j+k:Nat):Int)+1) (by omega) (by omega),show ((firstN n j+k:Nat):Int)+1=((firstN n j+(k+1):Nat):Int) by omega]
       · rw [hu,←levR_set hkl]
         have:(nodesU n j++levR n j k).set (0+Int.toNat ((firstN n j+k:Nat):Int)) (rowNode (szI n j k) ((firstN n (j+1)+k / 2:Nat):Int))=nodesU n j++(levR n j k).set k (rowNode (szI n j k) ((firstN n (j+1)+k / 2:Nat):Int)):=by
          rw [Int.toNat_natCast,Nat.zero_add,List.set_append_right _ _ (by rw [nodesU_len];omega),nodesU_len,Nat.add_sub_cancel_left]
         rw [←this]
         rfl
     · have h3:¬((firstN n j+k:Nat):Int)<((firstN n j+cntN n j:Nat):Int):=oFa h3
       obtain rfl:k=cntN n j:=by omega
       exact At.mk' [0,3] (j+1) ⟨hje,by omega⟩ ⟨rfl,rfl⟩ rfl rfl (by simp) (by simp) (by simp)

end
end
section
abbrev kindsA:List CV:=[.f (.str []),.nilfunc,.nilfunc,
 .f (.str [99,101,110,116,114,97,108]),.func 208 [],.func 209 [],
 .f (.str [99,111,109,98,105,110,101]),.func 210 [],.func 211 [],
 .f (.str [115,116,97,116,105,99]),.func 212 [],.func 213 [],
 .f (.str [115,112,114,101,97,100]),.func 214 [],.func 215 [],
 .f (.str [116,111,117,114,110,101,121]),.func 216 [],.func 217 [],
 .f (.str [109,99,115]),.func 218 [],.func 219 []]

section

variable {K:KP}

theorem danceKinds (h:K (.p (.agg kindsA)) [] []):Does Tryz.prog 166 [] [] K:=by
 refine does Tryz.func166 rfl (by decide) ?_
 exact h

theorem danceName {k:Int} (hk:1≤k∧k≤6) (h:∀ s,K (.tup [.c (.f (.str s)),.c .niliface]) [] []):Does Tryz.prog 220 [i64 k] [] K:=by
 refine does Tryz.func220 rfl (by decide) ?_
 refine bZ (fun h=>?_) (fun _=>?_)
 · have:=oTr h;omega
 refine bZ (fun h=>?_) (fun _=>?_)
 · have:k≥7:=oTr h
   omega
 change Does Tryz.prog 166 _ _ _
 refine Does.alone 0 (danceKinds ?_)
 have hk6:k=1∨k=2∨k=3∨k=4∨k=5∨k=6:=by omega
 rcases hk6 with rfl | rfl | rfl | rfl | rfl | rfl
 all_goals
  refine And.intro (by decide) (And.intro (by decide) (Exists.intro _ (And.intro rfl ?_)))
  exact h _

def cellsF (k:Int):FuncId:=if k=1 then 208 else if k=2 then 210 else if k=3 then 212 else if k=4 then 214 else if k=5 then 216 else 218
def codeF (k:Int):FuncId:=if k=1 then 209 else if k=2 then 211 else if k=3 then 213 else if k=4 then 215 else if k=5 then 217 else 219

theorem danceCells {k:Int} {n c:Nat} (hk:1≤k∧k≤6) (hc:∀ K:KP,K (.tup [.c (.f (.int .i64 c)),okP]) [] []→Does Tryz.prog (cellsF k) [i64 n] [] K) (h:K (.tup [.c (.f (.int .i64 c)),okP]) [] []):Does Tryz.prog 167 [i64 k,i64 n] [] K:=by
 refine does Tryz.func167 rfl (by decide) ?_
 change Does Tryz.prog 220 _ _ _
 refine Does.alone 0 (danceName hk fun s=>?_)
 change Does Tryz.prog 166 _ _ _
 refine Does.alone 0 (danceKinds ?_)
 have hk6:k=1∨k=2∨k=3∨k=4∨k=5∨k=6:=by omega
 rcases hk6 with rfl | rfl | rfl | rfl | rfl | rfl
 all_goals
  refine And.intro (by decide) (And.intro (by decide) (Exists.intro _ (And.intro rfl ?_)))
  exact hc _ h

theorem danceCode {k:Int} {n id R l:Nat} {p:List InsZ} (hk:1≤k∧k≤6) (hc:∀ K:KP,K (.tup [.c (.slc 0 0 l none true),okP]) [] [.rows false 5 (p.map rowIns)]→Does Tryz.prog (codeF k) [i64 n,i64 id,i64 R] [] K)
  (h:K (.tup [.c (.slc 0 0 l none true),okP]) [] [.rows false 5 (p.map rowIns)]):Does Tryz.prog 168 [i64 k,i64 n,i64 id,i64 R] [] K:=by
 refine does Tryz.func168 rfl (by decide) ?_
 change Does Tryz.prog 220 _ _ _
 refine Does.alone 0 (danceName hk fun s=>?_)
 change Does Tryz.prog 166 _ _ _
 refine Does.alone 0 (danceKinds ?_)
 have hk6:k=1∨k=2∨k=3∨k=4∨k=5∨k=6:=by omega
 rcases hk6 with rfl | rfl | rfl | rfl | rfl | rfl
 all_goals
  refine And.intro (by decide) (And.intro (by decide) (Exists.intro _ (And.intro rfl ?_)))
  exact hc _ h

end

structure KindOk (k:Int) (n R nc:Nat) (ps:List (List InsZ)):Prop where
 k6:1≤k∧k≤6
 n16:1≤n∧n≤16
 len:ps.length=n
 nc300:nc≤300
 right:∀ p∈ps,rightZ p nc=true
 cells:∀ K:KP,K (.tup [.c (.f (.int .i64 nc)),okP]) [] []→Does Tryz.prog (cellsF k) [i64 n] [] K
 code:∀ (id:Nat) (p:List InsZ),ps[id]? = some p→∀ K:KP,K (.tup [.c (.slc 0 0 p.length none true),okP]) [] [.rows false 5 (p.map rowIns)]→Does Tryz.prog (codeF k) [i64 n,i64 id,i64 R] [] K

section

variable {K:KP}

theorem danceNew {k:Int} {n R nc:Nat} {ps:List (List InsZ)} (hk:KindOk k n R nc ps) (h:∀ v,okV v→WF (mz0 ps (List.replicate nc 0))→K (.tup [.c (.ptr 0 0),okP]) [] (machS 0 (mz0 ps (List.replicate nc 0)) v)) :
  Does Tryz.prog 113 [i64 k,i64 n,i64 R] [] K:=by
 have hps:=hk.len
 have hnc:=hk.nc300
 obtain ⟨hn1,hn⟩:=hk.n16
 refine Does.keep 0 rfl ?_
 refine does Tryz.func113 rfl (by decide) ?_
 change Does Tryz.prog 167 _ _ _
 refine Does.alone 0 (danceCells hk.k6 hk.cells ?_)
 refine SS.nil2 10 5 rfl ?_
 refine SS.loop (fun i:Nat=>i≤n) (fun i=>[(0,i64 k),(1,i64 n),(2,i64 R),(8,i64 nc),(10,cv (.slc 0 0 i none false)),(23,i64 n),(24,i64 i)])
  (fun i=>[.rows2 false 5 ((ps.take i).map fun p=>p.map rowIns)]) (fun i=>n-i) [0,1,2,3]
  (At.mk' [0,1,2,8,10,23,24] 0 (by simp) ⟨rfl,rfl⟩ rfl rfl (by simp) (by simp) (by simp)) ?_
 intro i hi
 change i≤n at hi
 refine S_r ?_
 refine bZ (fun hlt=>?_) (fun hlt=>?_)
 · have hlt:i<n:=by
    have:=oTr hlt
    have:(i:Int)<(n:Int):=this
    omega
   obtain ⟨p,hp⟩ : ∃ p,ps[i]? = some p:=⟨_,List.getElem?_eq_getElem (by omega)⟩
   have hrp:=hk.right p (List.mem_of_getElem? hp)
   have hpl:p.length≤600:=by
    simp only [rightZ,Bool.and_eq_true,decide_eq_true_eq] at hrp
    exact hrp.1.1.2.2
   refine SS.inlR ?_
   change Does Tryz.prog 168 _ _ _
   refine Does.alone 1 (danceCode hk.k6 (hk.code i p hp) ?_)
   refine And.intro (by simp) (And.intro rfl (And.intro (by simp;omega) (at2 (by show (i+1)*24≤_;omega) (by omega) ?_)))
   refine At.mk' [0,1,2,8,10,23,24] (i+1) ⟨hlt,by omega⟩ ⟨?_,rfl⟩ ?_ rfl (by simp) (by simp) (by decide)
   · rw [wrap_i64 (i+1) (by omega) (by omega)]
     rfl
   · have e:(ps.take (i+1)).map (fun p=>p.map rowIns)=(ps.take i).map (fun p=>p.map rowIns)++[p.map rowIns]:=by
      rw [List.take_add_one,hp,List.map_append]
      rfl
     rw [e]
     rfl
 · have hlt:¬(i:Int)<(n:Int):=oFa hlt
   obtain rfl:n=i:=by omega
   rw [show ps.take n=ps from List.take_of_length_le (by omega)]
   have w0:WF (mz0 ps (List.replicate nc 0)):=mz0_wf (by omega) (by rw [List.length_replicate];exact hnc) (by rw [List.length_replicate];exact hk.right) fun x hx=>by rw [(List.mem_replicate.1 hx).2];omega
   refine at2 (by omega) (by omega) (at2 (by show ((8:Nat):Int)*(nc:Int)≤_;omega) (by omega) ?_)
   change Does Tryz.prog 27 _ _ _
   have hwl:(List.replicate nc (0:Int)).length=nc:=List.length_replicate
   have hrw:(List.replicate nc (0:Int)).map rowU=List.replicate nc [FC.int .u64 0]:=by rw [List.map_replicate]
   have hright:=hk.right
   rw [Int.toNat_natCast,←hrw]
   generalize List.replicate nc (0:Int)=ws at h w0 hwl ⊢
   clear hk hrw
   subst hwl hps
   refine Does.on 2 [0,1] _ _ (coreNew (ps:=ps) (ws:=ws) (n:=ps.length) (nc:=ws.length) rfl rfl hn hnc hright fun v hv=>?_)
   exact ⟨11,[2,3,4,5,6,7,8,9,10],machS 0 (mz0 ps ws) v,.tup [.c (.ptr 0 0),okP],rfl,rfl,by decide,by decide,rfl,rfl,rfl,rfl,rfl,h v hv w0⟩

end
end
end Go.Mac
end
