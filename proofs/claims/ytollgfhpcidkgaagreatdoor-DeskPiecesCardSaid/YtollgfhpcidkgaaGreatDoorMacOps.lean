import Derived.Test.YtollgfhpcidkgaaGreatDoorMacMem
import Derived.Laws.StructEq

namespace Go.Mac
open Go

section

variable {B R:Nat→Prop} {w0:World} {N:Nat} {L:Nat→Loc} {P:Program} {w:World} {K:AV→Prop}

theorem bytes_toList (l:List UInt8):(ByteArray.mk l.toArray).toList=l:=by
 rw [ByteArray.toList_eq]

theorem run_eqGuard_ne {op:BinOp} {t:TypeId} {x y:Operand} {a b:Value} (h:¬(a=.nilIface∧b=.nilIface)) (h':∀ u v,¬(a=.agg u∧b=.agg v)) :
 (eqGuard op t x y a b).run P w=.ok () w:=by
 cases op <;> simp only [eqGuard,Bool.not_true,Bool.not_false,if_true,if_false,Bool.false_eq_true,Sem.run_pure] <;> try rfl
 all_goals
  split
  · exact absurd ⟨rfl,rfl⟩ h
  · exact absurd ⟨rfl,rfl⟩ (h' _ _)
  · rfl

theorem run_eqGuard_const {op:BinOp} {t:TypeId} {x y:Operand} (h:isConst x=true∨isConst y=true):(eqGuard op t x y .nilIface .nilIface).run P w=.ok () w:=by
 cases x <;> cases y <;> simp [isConst] at h <;> cases op <;> rfl

theorem VA.intv {k:IntKind} {n:Int}:VA N L (fcv (.int k n)) (.int k n):=rfl
theorem VA.boolv {b:Bool}:VA N L (bl b) (.bool b):=rfl

theorem intBin_sound {op:BinOp} {t:TypeId} {k k':IntKind} {a b:Int} (hk:op=.shl∨op=.shr∨k=k') (h:intBin op k a b K) :
 ∃ y u,(binOp op t (.int k a) (.int k' b)).run P w=.ok u w∧VA N L y u∧K y:=by
 cases op <;> simp only [intBin,nonneg_iff,nonzero_iff] at h
 case shl =>
  have:¬b<0:=by omega
  exact ⟨_,_,by simp only [binOp,Op.shift,if_neg this];rfl,VA.intv,h.2⟩
 case shr =>
  have:¬b<0:=by omega
  exact ⟨_,_,by simp only [binOp,Op.shift,if_neg this];rfl,VA.intv,h.2⟩
 all_goals
  have hk':k=k':=by simpa using hk
  subst hk'
 case quo=>exact ⟨_,_,by simp only [binOp,Op.intDiv,if_neg h.1,ne_eq,not_true_eq_false,if_false];rfl,VA.intv,h.2⟩
 case rem=>exact ⟨_,_,by simp only [binOp,Op.intDiv,if_neg h.1,ne_eq,not_true_eq_false,if_false];rfl,VA.intv,h.2⟩
 case eql=>exact ⟨_,_,by simp only [binOp,Op.intCmp,ne_eq,not_true_eq_false,if_false];rfl,VA.boolv,h⟩
 case neq=>exact ⟨_,_,by simp only [binOp,Op.intCmp,ne_eq,not_true_eq_false,if_false];rfl,VA.boolv,h⟩
 case lss=>exact ⟨_,_,by simp only [binOp,Op.intCmp,ne_eq,not_true_eq_false,if_false];rfl,VA.boolv,h⟩
 case leq=>exact ⟨_,_,by simp only [binOp,Op.intCmp,ne_eq,not_true_eq_false,if_false];rfl,VA.boolv,h⟩
 case gtr=>exact ⟨_,_,by simp only [binOp,Op.intCmp,ne_eq,not_true_eq_false,if_false];rfl,VA.boolv,h⟩
 case geq=>exact ⟨_,_,by simp only [binOp,Op.intCmp,ne_eq,not_true_eq_false,if_false];rfl,VA.boolv,h⟩
 all_goals exact ⟨_,_,by simp only [binOp,Op.intArith,Op.intBits,ne_eq,not_true_eq_false,if_false];rfl,VA.intv,h⟩

theorem strBin_sound {op:BinOp} {t:TypeId} {a b:List UInt8} (h:strBin op a b K) :
 ∃ y u,(binOp op t (.string ⟨a.toArray⟩) (.string ⟨b.toArray⟩)).run P w=.ok u w∧VA N L y u∧K y:=by
 have hs:(ByteArray.mk a.toArray).size=a.length:=rfl
 have hs':(ByteArray.mk b.toArray).size=b.length:=rfl
 cases op <;> simp only [strBin] at h <;> try exact h.elim
 case add =>
  refine ⟨_,.string (⟨a.toArray⟩++⟨b.toArray⟩),?_,?_,h.2⟩
  · have:¬(((a.length+b.length:Nat):Int) > IntKind.i64.max):=by
     have:=h.1
     show ¬(_ > (9223372036854775807:Int))
     omega
    simp only [binOp,Op.stringOp,hs,hs',if_neg this]
    rfl
  · show Value.string _=Value.string _
    congr 1
 all_goals exact ⟨_,_,by simp only [binOp,Op.stringOp,bytes_toList];rfl,VA.boolv,h⟩

theorem eqA_sound {t:TypeId} {c:Bool} {x y:CV} {v u:Value} (hx:VC N L x v) (hy:VC N L y u) (ht:eqTy P t x=true) {b:Bool} (h:eqA c x y=some b) :
 (Op.equal t v u).run P w=.ok b w:=by
 show (Op.equalIn (9999+1) t v u).run P w=.ok b w
 unfold eqA at h
 split at h <;> (try simp only [Option.some.injEq,reduceCtorEq] at h) <;> (try subst h)
 all_goals (simp only [VC] at hx hy)
 all_goals (simp only [eqTy] at ht)
 all_goals (split at ht <;> try cases ht)
 all_goals rename_i hu
 all_goals (first
  | (subst hx;subst hy)
  | (obtain ⟨_,rfl,_⟩:=hy;subst hx)
  | (obtain ⟨_,rfl,_⟩:=hx;subst hy)
  | (obtain ⟨_,rfl⟩:=hy;subst hx)
  | (obtain ⟨_,rfl⟩:=hx;subst hy)
  | (obtain ⟨_,⟨hh,_⟩ | ⟨_,_,rfl,_⟩⟩:=hy;· cases hh
     subst hx)
  | (obtain ⟨_,⟨hh,_⟩ | ⟨_,_,rfl,_⟩⟩:=hx;· cases hh
     subst hy))
 all_goals (try (cases c <;> simp at h;subst h))
 all_goals (rw [Op.equalIn];simp only [Sem.run_bind,run_underlying_some hu,Result.andThen_ok];rfl)

theorem eqFC_sound (d:Nat) {t:TypeId} {x y:FC} (hk:kindOf x=kindT P t) {b:Bool} (h:eqFC x y=some b) :
 aggT P t=some false∧(Op.equalIn (d+1) t x.val y.val).run P w=.ok b w:=by
 cases x <;> cases y <;> simp only [eqFC,Option.some.injEq,reduceCtorEq] at h
 · have hu:P.underlying t=some .bool:=by
    unfold kindT at hk;split at hk <;> simp [kindOf] at hk;assumption
   subst h
   exact ⟨by simp [aggT,hu],run_equalIn_bool' w d t _ _ hu⟩
 · obtain ⟨k,hu⟩ : ∃ k,P.underlying t=some (.int k):=by
    unfold kindT at hk;split at hk <;> simp [kindOf] at hk;exact ⟨_,by assumption⟩
   split at h <;> simp only [Option.some.injEq,reduceCtorEq] at h
   rename_i hkk
   subst h
   subst hkk
   exact ⟨by simp [aggT,hu],run_equalIn_int w d t _ _ _ _ hu⟩
 · have hu:P.underlying t=some .string:=by
    unfold kindT at hk;split at hk <;> simp [kindOf] at hk;assumption
   subst h
   refine ⟨by simp [aggT,hu],?_⟩
   simp only [FC.val]
   rw [run_equalIn_string w d t _ _ hu,bytes_toList,bytes_toList]

theorem eqFCs_sound (d:Nat) {xs ys:Array Value}:∀ (fs:List Field) (n:Nat) (X Y:List FC),plainFrom P fs n=true→xs.toList.drop n=X.map FC.val→ys.toList.drop n=Y.map FC.val →
 X.map kindOf=fs.map (fun f=>kindT P f.type)→∀ b,eqFCs X Y=some b→(Op.eqFields (d+1) xs ys fs).run P w=.ok b w
 | [],n,X,Y,_,hX,hY,hl,b,h=>by
   have:X=[]:=by simpa using hl
   subst this
   cases Y with
   | nil=>simp [eqFCs] at h;subst h;rfl
   | cons y Y=>simp [eqFCs] at h
 | f::fs,n,X,Y,hp,hX,hY,hl,b,h=>by
   cases X with
   | nil=>simp at hl
   | cons x X =>
     cases Y with
     | nil=>simp [eqFCs] at h
     | cons y Y =>
       simp only [plainFrom,Bool.and_eq_true,beq_iff_eq,bne_iff_ne] at hp
       obtain ⟨⟨⟨hoff,hname⟩,_⟩,hrest⟩:=hp
       simp only [List.map_cons,List.cons.injEq] at hl hX hY
       have hxn:xs[n]? = some x.val:=by
        have:=congrArg (·[0]?) hX
        simpa using this
       have hyn:ys[n]? = some y.val:=by
        have:=congrArg (·[0]?) hY
        simpa using this
       have hxd:xs.toList.drop (n+1)=X.map FC.val:=by
        rw [←List.tail_drop,hX];rfl
       have hyd:ys.toList.drop (n+1)=Y.map FC.val:=by
        rw [←List.tail_drop,hY];rfl
       simp only [eqFCs] at h
       split at h <;> simp only [Option.some.injEq,reduceCtorEq] at h
       rename_i b1 b2 h1 h2
       obtain ⟨hagg,heq⟩:=eqFC_sound (w:=w) (P:=P) d hl.1 h1
       have hpx:(part f.type xs f.offset).run P w=.ok x.val w:=by
        simp [part,run_isAgg_some hagg,hoff,hxn]
       have hpy:(part f.type ys f.offset).run P w=.ok y.val w:=by
        simp [part,run_isAgg_some hagg,hoff,hyn]
       have ih:=eqFCs_sound d fs (n+1) X Y hrest hxd hyd hl.2 b2 h2
       simp only [Op.eqFields,if_pos hname,Sem.run_bind,hpx,hpy,heq,Result.andThen_ok,Sem.run_ite]
       cases b1
       · simp at h;subst h;simp
       · simp at h;subst h;simpa using ih

theorem VCs_f:∀ {X:List FC} {vs:List Value},VCs N L (X.map .f) vs→vs=X.map FC.val
 | [],vs,h=>h
 | x::X,vs,h=>by
   obtain ⟨y,ys,rfl,h2,h3⟩:=h
   obtain rfl:=h2
   rw [VCs_f (X:=X) h3]
   rfl

theorem structEq_sound {t:TypeId} {op:BinOp} {x y:Operand} {X Y:List FC} (hp:plainT P t=true) (hk:X.map kindOf=kindsT P t) {b:Bool}
 (h:eqFCs X Y=some b):(eqGuard op t x y (.agg (X.map FC.val).toArray) (.agg (Y.map FC.val).toArray)).run P w=.ok () w ∧
   (Op.equal t (.agg (X.map FC.val).toArray) (.agg (Y.map FC.val).toArray)).run P w=.ok b w:=by
 simp only [plainT,Bool.and_eq_true,Bool.not_eq_true'] at hp
 obtain ⟨⟨⟨h1,h2⟩,h3⟩,h4⟩:=hp
 refine ⟨run_eqGuard_agg w op t x y _ _ h3,?_⟩
 cases hu:P.underlying t with
 | none=>simp [hu] at h1
 | some dd =>
   cases dd <;> simp [hu] at h1
   rename_i fs
   have hf:fieldsT P t=fs.toList:=by simp [fieldsT,hu]
   have hpf:P.fieldsOf t=fs:=by simp [Program.fieldsOf,hu]
   rw [hf] at h2
   have:=run_equalIn_agg (P:=P) w 9999 t (X.map FC.val).toArray (Y.map FC.val).toArray (by rw [hpf];exact hu) h4
   show (Op.equalIn (9999+1) t _ _).run P w=_
   rw [this,hpf]
   exact eqFCs_sound 9998 fs.toList 0 X Y h2 (by simp) (by simp) (by simpa [kindsT,hf] using hk) b h

theorem eqA_plain {c:Bool} {x y:CV} {b:Bool} (h:eqA c x y=some b) {v u:Value} (hx:VC N L x v) (hy:VC N L y u) :
 (¬(v=.nilIface∧u=.nilIface)∨c=true)∧∀ a b,¬(v=.agg a∧u=.agg b):=by
 constructor
 · unfold eqA at h
   split at h <;> (try simp only [reduceCtorEq] at h)
   case h_1=>right;cases c <;> simp at h ⊢
   case h_2=>left;obtain ⟨_,rfl,_⟩:=hy;simp
   case h_3=>left;obtain ⟨_,rfl,_⟩:=hx;simp
   all_goals
    left
    rintro ⟨rfl,rfl⟩
    simp [VC] at hx hy
   all_goals
    obtain ⟨_,hh⟩:=hy
    simp [Hdr] at hh
 · rintro a b ⟨rfl,rfl⟩
   have:=hx.oneCell
   simp [OneCell] at this

theorem eqA_bin {c:Bool} {x y:CV} {b:Bool} (h:eqA c x y=some b) {v u:Value} (hx:VC N L x v) (hy:VC N L y u) (t:TypeId) :
 binOp .eql t v u=(do pure (.bool (←Op.equal t v u)))∧binOp .neq t v u=(do pure (.bool (!(←Op.equal t v u)))):=by
 unfold eqA at h
 split at h <;> (try simp only [reduceCtorEq] at h)
 all_goals (simp only [VC] at hx hy)
 all_goals (first
  | (subst hx;subst hy;exact ⟨rfl,rfl⟩)
  | (obtain ⟨_,rfl,_⟩:=hy;subst hx;exact ⟨rfl,rfl⟩)
  | (obtain ⟨_,rfl,_⟩:=hx;subst hy;exact ⟨rfl,rfl⟩)
  | (obtain ⟨_,rfl⟩:=hy;subst hx;exact ⟨rfl,rfl⟩)
  | (obtain ⟨_,rfl⟩:=hx;subst hy;exact ⟨rfl,rfl⟩)
  | (obtain ⟨_,⟨hh,_⟩ | ⟨_,_,rfl,_⟩⟩:=hy;· cases hh
     subst hx;exact ⟨rfl,rfl⟩)
  | (obtain ⟨_,⟨hh,_⟩ | ⟨_,_,rfl,_⟩⟩:=hx;· cases hh
     subst hy;exact ⟨rfl,rfl⟩))

theorem bin_sound {op:BinOp} {t:TypeId} {x y:Operand} {p q:AV} {v u:Value} (hx:VA N L p v) (hy:VA N L q u) (h:binA P op t (isConst x || isConst y) p q K) :
 ∃ r s,(do eqGuard op t x y v u;binOp op t v u:Sem Value).run P w=.ok s w∧VA N L r s∧K r:=by
 unfold binA at h
 split at h <;> try exact h.elim
 · rename_i p q
   split at h
   · rename_i k a k' b
     obtain rfl:=hx;obtain rfl:=hy
     have hg:(eqGuard op t x y (FC.int k a).val (FC.int k' b).val).run P w=.ok () w:=run_eqGuard_ne (by simp [FC.val]) (by simp [FC.val])
     have:∃ r s,(binOp op t (.int k a) (.int k' b)).run P w=.ok s w∧VA N L r s∧K r:=by
      split at h
      · exact intBin_sound (.inl rfl) h
      · exact intBin_sound (.inr (.inl rfl)) h
      · simp only [cond_eq_ite,decide_eq_true_eq] at h
        split at h <;> try exact h.elim
        rename_i hk
        exact intBin_sound (.inr (.inr hk)) h
     obtain ⟨r,s,h1,h2,h3⟩:=this
     exact ⟨r,s,by simp only [Sem.run_bind,hg,Result.andThen_ok];exact h1,h2,h3⟩
   · rename_i a b
     obtain rfl:=hx;obtain rfl:=hy
     obtain ⟨r,s,h1,h2,h3⟩:=strBin_sound (N:=N) (L:=L) (P:=P) (w:=w) (t:=t) h
     have hg:(eqGuard op t x y (FC.str a).val (FC.str b).val).run P w=.ok () w:=run_eqGuard_ne (by simp [FC.val]) (by simp [FC.val])
     exact ⟨r,s,by simp only [Sem.run_bind,hg,Result.andThen_ok];exact h1,h2,h3⟩
   · rename_i a b
     obtain rfl:=hx;obtain rfl:=hy
     have hg:(eqGuard op t x y (FC.bool a).val (FC.bool b).val).run P w=.ok () w:=run_eqGuard_ne (by simp [FC.val]) (by simp [FC.val])
     unfold boolBin at h
     split at h <;> try exact h.elim
     all_goals
      rename_i hu
      have heq:(Op.equal t (FC.bool a).val (FC.bool b).val).run P w=.ok (a == b) w:=run_equalIn_bool' w 9999 t _ _ hu
      exact ⟨_,_,by simp only [FC.val] at hg heq ⊢;simp only [Sem.run_bind,hg,Result.andThen_ok,binOp,heq,Sem.run_pure],VA.boolv,h⟩
   · simp only [cond_eq_ite] at h
     split at h <;> try exact h.elim
     rename_i ht
     have key:∀ b,eqA (isConst x || isConst y) p q=some b→(eqGuard op t x y v u).run P w=.ok () w∧(Op.equal t v u).run P w=.ok b w:=by
      intro b hb
      refine ⟨?_,eqA_sound hx hy ht hb⟩
      obtain ⟨h1,h2⟩:=eqA_plain hb hx hy
      rcases h1 with h1 | h1
      · exact run_eqGuard_ne h1 h2
      · by_cases hn:v=.nilIface∧u=.nilIface
        · obtain ⟨rfl,rfl⟩:=hn
          exact run_eqGuard_const (by simpa using h1)
        · exact run_eqGuard_ne hn h2
     split at h <;> try exact h.elim
     · rename_i b hb
       obtain ⟨h1,h2⟩:=key b hb
       obtain ⟨h3,h4⟩:=eqA_bin hb hx hy t
       exact ⟨_,_,by simp only [Sem.run_bind,h1,Result.andThen_ok,h3,h2,Sem.run_pure],VA.boolv,h⟩
     · rename_i b hb
       obtain ⟨h1,h2⟩:=key b hb
       obtain ⟨h3,h4⟩:=eqA_bin hb hx hy t
       exact ⟨_,_,by simp only [Sem.run_bind,h1,Result.andThen_ok,h4,h2,Sem.run_pure],VA.boolv,h⟩
 · rename_i xs ys
   split at h <;> try exact h.elim
   rename_i X Y hX hY
   obtain ⟨hp,h⟩:=h
   simp only [cond_eq_ite,decide_eq_true_eq] at h
   split at h <;> try exact h.elim
   rename_i hk
   have hpk:plainT P t=true∧X.map kindOf=kindsT P t:=⟨hp,hk⟩
   obtain ⟨vs,rfl,hvs⟩:=hx
   obtain ⟨us,rfl,hus⟩:=hy
   rw [fcs_spec hX] at hvs
   rw [fcs_spec hY] at hus
   obtain rfl:=VCs_f hvs
   obtain rfl:=VCs_f hus
   split at h <;> try exact h.elim
   · rename_i b hb
     obtain ⟨h1,h2⟩:=structEq_sound (P:=P) (w:=w) (op:=.eql) (x:=x) (y:=y) hpk.1 hpk.2 hb
     exact ⟨_,_,by simp only [Sem.run_bind,h1,Result.andThen_ok,binOp,h2,Sem.run_pure],VA.boolv,h⟩
   · rename_i b hb
     obtain ⟨h1,h2⟩:=structEq_sound (P:=P) (w:=w) (op:=.neq) (x:=x) (y:=y) hpk.1 hpk.2 hb
     exact ⟨_,_,by simp only [Sem.run_bind,h1,Result.andThen_ok,binOp,h2,Sem.run_pure],VA.boolv,h⟩

theorem un_sound {op:UnOp} {p:AV} {v:Value} (hx:VA N L p v) (h:unA op p K):∃ r s,(Op.unary op v).run P w=.ok s w∧VA N L r s∧K r:=by
 unfold unA at h
 split at h <;> try exact h.elim
 · obtain rfl:=hx
   exact ⟨_,_,rfl,VA.boolv,h⟩
 · obtain rfl:=hx
   exact ⟨_,_,rfl,VA.intv,h⟩

theorem conv_sound {s d:TypeId} {p:AV} {v:Value} (hx:VA N L p v) (h:convA P s d p K):∃ r u,(convert s d v).run P w=.ok u w∧VA N L r u∧K r:=by
 simp only [convA,cond_eq_ite] at h
 split at h <;> try exact h.elim
 rename_i hs
 obtain ⟨ds,hds⟩:=Option.isSome_iff_exists.1 hs
 split at h <;> try exact h.elim
 · rename_i k _ n hd
   obtain rfl:=hx
   refine ⟨_,.int k (k.wrap n),?_,VA.intv,h⟩
   simp only [convert,Sem.run_bind,run_underlying_some hds,run_underlying_some hd,Result.andThen_ok]
   rfl
 · rename_i l hd
   obtain rfl:=hx
   refine ⟨st l,.string ⟨l.toArray⟩,?_,rfl,h⟩
   simp only [convert,Sem.run_bind,run_underlying_some hds,run_underlying_some hd,Result.andThen_ok]
   rfl

theorem zval_sound {t:TypeId} {y:PV} (h:zval P t=.p y):∃ z,(zeroValue t).run P w=.ok z w∧VP N L y z:=by
 unfold zval at h
 split at h
 · rename_i z hz
   have:=avOf_ok (N:=N) (L:=L) z
   rw [h] at this
   exact ⟨z,run_zeroValue_some hz,this⟩
 · cases h

theorem fill_sound (place:Nat→Option (Nat×Nat)) {K:List CV→Prop}:∀ (parts:List (Nat×AV)) (vparts:List (Nat×Value)) (cells:List CV) (vcells:Array Value),
 parts.map (·.1)=vparts.map (·.1)→VAs N L (parts.map (·.2)) (vparts.map (·.2))→VCs N L cells vcells.toList→fillK place cells K parts →
 ∃ cs vcs,Instr.fill place vcells vparts=some vcs∧VCs N L cs vcs.toList∧K cs
 | [],vparts,cells,vcells,h1,h2,h3,h=>by
   have:vparts=[]:=by simpa using h1.symm
   subst this
   exact ⟨cells,vcells,rfl,h3,h⟩
 | (i,x)::parts,vparts,cells,vcells,h1,h2,h3,h=>by
   cases vparts with
   | nil=>simp at h1
   | cons q vparts =>
     obtain ⟨j,v⟩:=q
     simp only [List.map_cons,List.cons.injEq] at h1
     obtain ⟨rfl,h1⟩:=h1
     obtain ⟨_,_,he,hxv,h2⟩:=h2
     cases he
     simp only [fillK] at h
     split at h <;> try exact h.elim
     rename_i off size x hpl
     simp only [cond_eq_ite] at h
     split at h
     · exact h.elim
     rename_i hpos
     have hpos:size≠0:=by intro e;subst e;simp at hpos
     split at h <;> try exact h.elim
     rename_i hsz
     have hsz:=lenIs_spec _ _ hsz
     obtain ⟨hle,h⟩:=setsK_spec _ _ _ _ h
     have hvs:=VP.cells (N:=N) (L:=L) (x:=x) (v:=v) hxv
     have hlen:=hvs.length
     have hvl:v.cells.size=size:=by rw [←hsz,hlen];simp
     have hcl:=h3.length
     have key:∀ (ys:List CV) (us:List Value) (k:Nat) (c:List CV) (vc:Array Value),VCs N L ys us→VCs N L c vc.toList →
      VCs N L (splice c (off+k) ys) ((us.zipIdx k).foldl (fun cs (p:Value×Nat)=>cs.setIfInBounds (off+p.2) p.1) vc).toList:=by
      intro ys
      induction ys with
      | nil=>intro us k c vc hu hc;simp [VCs] at hu;subst hu;simpa [splice] using hc
      | cons y ys ih =>
        intro us k c vc hu hc
        obtain ⟨u,us',rfl,hyu,hu'⟩:=hu
        simp only [splice,List.zipIdx_cons,List.foldl_cons]
        refine ih us' (k+1) _ _ hu' ?_
        have:=VCs.set hc (off+k) hyu
        simpa using this
     have hk:=key (cellsOf x) v.cells.toList 0 cells vcells hvs h3
     obtain ⟨cs,vcs,hf,hr,hK⟩:=fill_sound place parts vparts _ _ h1 h2 hk h
     refine ⟨cs,vcs,?_,hr,hK⟩
     simp only [Instr.fill,hpl]
     have hle:off+(cellsOf x).length≤cells.length:=by
      rcases hle with hle | hle
      · exact hle
      · rw [hle] at hsz;simp at hsz;omega
     have:(v.cells.size≠size || decide (off+v.cells.size > vcells.size))=false:=by
      simp [hvl];simp at hcl;omega
     rw [if_neg (by simpa using this)]
     rw [←hf]
     congr 1
     rw [←Array.foldl_toList]
     simp

end

end Go.Mac
