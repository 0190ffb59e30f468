/- Texts that belong together; the first of them:  -/
import Derived.Test.YtollgfhpcidkgaaGreatDoorA20
import Derived.Test.YtollgfhpcidkgaaGreatDoorA12
import Derived.Test.YtollgfhpcidkgaaGreatDoorA7
import Derived.Test.YtollgfhpcidkgaaGreatDoorA15

section
open Go Go.Proofs Go.Mac
set_option maxRecDepth 100000
namespace Go.Mac
section
theorem okI_rel {cells size p:Int} {L:Nat} {i:InsZ} (h:okI cells ((L:Int)+1) i=true) (hp:0≤p) (hs:p+L<size):okI cells size (relI p i)=true:=by
 obtain ⟨op,a,b,c,d⟩:=i
 have hop:0≤op∧op<17:=by
  simp only [okI,Bool.and_eq_true,decide_eq_true_eq] at h
  exact h.1.1.1.1
 rcases (show op=0∨op=1∨op=2∨op=3∨op=4∨op=5∨op=6∨op=7∨op=8∨op=9∨op=10∨op=11∨op=12∨op=13∨op=14∨op=15∨op=16 by omega) with rfl | rfl | rfl | rfl | rfl | rfl | rfl | rfl | rfl | rfl | rfl | rfl | rfl | rfl | rfl | rfl | rfl <;> first
  | exact h
  | (simp [okI,relI,fo,formZ,fitsZ] at h ⊢;omega)

theorem catU_ok {cells size:Int}:∀ (bs:List (List InsZ)) (p:Nat),(∀ b∈bs,∀ i∈b,okI cells ((b.length:Int)+1) i=true)→((p+offB bs bs.length:Nat):Int)<size→∀ i∈catU p bs,okI cells size i=true
 | [],_,_,_,i,hi=>by cases hi
 | b::bs,p,h,hs,i,hi=>by
   rw [List.length_cons,offB_cons] at hs
   rw [catU,List.mem_append] at hi
   rcases hi with hi | hi
   · obtain ⟨j,hj,rfl⟩:=List.mem_map.1 hi
     exact okI_rel (h b (by simp) j hj) (by omega) (by omega)
   · exact catU_ok bs (p+b.length) (fun c hc=>h c (by simp [hc])) (by omega) i hi

theorem catP_right {bs:List (List InsZ)} {cells:Int} (hc:0≤cells∧cells≤300) (hb:∀ b∈bs,∀ i∈b,okI cells ((b.length:Int)+1) i=true) (hl:offB bs bs.length<600):rightZ (catP bs) cells=true:=by
 have hlen:(catP bs).length=offB bs bs.length+1:=by rw [catP,List.length_append,catU_len];rfl
 rw [rightZ,decide_eq_true hc,hlen,decide_eq_true (by omega)]
 simp only [Bool.true_and,Bool.and_eq_true]
 refine ⟨List.all_eq_true.2 fun i hi=>?_,?_⟩
 · rw [catP,List.mem_append] at hi
   rcases hi with hi | hi
   · exact catU_ok bs 0 hb (by omega) i hi
   · obtain rfl:=List.mem_singleton.1 hi
     simp [okI,fo,formZ,fitsZ]
 · rw [lastOp,catP,List.getLast?_append]
   rfl

theorem offB_le {n:Nat}:∀ (bs:List (List InsZ)) (_:∀ b∈bs,b.length≤n) (j:Nat),offB bs j≤n*bs.length
 | [],_,j=>by simp [offB]
 | b::bs,h,0=>by simp [offB]
 | b::bs,h,j+1=>by
   rw [offB_cons,List.length_cons,Nat.mul_succ]
   have:=offB_le bs (fun c hc=>h c (by simp [hc])) j
   have:=h b (by simp)
   omega

theorem foldl_catU (f:Nat→CallZ→List InsZ) (b:CallZ→List InsZ) (hf:∀ p c,f p c=(b c).map (relI p)):∀ (l:List CallZ) (out:List InsZ),l.foldl (fun o c=>o++f o.length c) out=out++catU out.length (l.map b)
 | [],out=>by simp [catU]
 | c::l,out=>by
   rw [List.foldl_cons,foldl_catU f b hf l,List.map_cons,catU,hf,List.length_append,List.length_map,List.append_assoc]
end
section
def SayB (p:List InsZ):Prop:=∀ i∈p,i.op=16→1≤i.a∧i.a≤3

theorem badAt_all {fit:CallZ→Bool}:∀ {l:List CallZ} (k:Nat),badAt fit k l=none→∀ c∈l,fit c=true
 | [],_,_,c,hc=>by simp at hc
 | y::l,k,h,c,hc=>by
   rw [badAt] at h
   split at h
   · rename_i hy
     rcases List.mem_cons.1 hc with rfl | hc
     · exact hy
     · exact badAt_all _ h c hc
   · cases h

theorem rel_say {p:Int} {i:InsZ} (h:i.op=16→1≤i.a∧i.a≤3):(relI p i).op=16→1≤(relI p i).a∧(relI p i).a≤3:=by
 unfold relI
 split
 · rename_i h0
   intro h1
   rw [show ({ i with a:=p+i.a }:InsZ).op=i.op from rfl,h0] at h1
   cases h1
 · split
   · exact h
   · exact h

theorem codeG_right {fit:CallZ→Bool} {ins:Int→CallZ→List InsZ} {nc:Nat} {l:List CallZ} {p:List InsZ} (hnc:nc≤300) (hil:∀ p c,(ins p c).length≤40) (hrel:∀ p c,ins p c=(ins 0 c).map (relI p))
  (hok:∀ c,fit c=true→(ins 0 c).all (fun i=>okI nc (((ins 0 c).length:Int)+1) i && (i.op != 16 || (decide (1≤i.a) && decide (i.a≤3))))=true) (h:codeG fit ins l=.ok p):rightZ p nc=true∧SayB p:=by
 unfold codeG codeOf at h
 split at h
 · cases h
 rename_i hl
 split at h
 · cases h
 rename_i hn
 obtain rfl:=Except.ok.inj h
 have hfit:=badAt_all 0 hn
 have hb:∀ b∈l.map (ins 0),∀ i∈b,okI nc ((b.length:Int)+1) i=true∧(i.op=16→1≤i.a∧i.a≤3):=fun b hb i hi=>by
  obtain ⟨c,hc,rfl⟩:=List.mem_map.1 hb
  have:=List.all_eq_true.1 (hok c (hfit c hc)) i hi
  simp only [Bool.and_eq_true,Bool.or_eq_true,bne_iff_ne,ne_eq,decide_eq_true_eq] at this
  exact ⟨this.1,fun h16=>this.2.resolve_left fun hne=>hne h16⟩
 have e:insU ins l=catU 0 (l.map (ins 0)):=by
  have:=foldl_catU (fun n c=>ins (n:Int) c) (ins 0) (fun n c=>hrel n c) l []
  simpa [insU] using this
 have hlen:=offB_le (n:=40) (l.map (ins 0)) (fun b hb=>by
  obtain ⟨c,_,rfl⟩:=List.mem_map.1 hb
  exact hil 0 c) (l.map (ins 0)).length
 rw [List.length_map] at hlen
 have e2:insU ins l++[⟨0,0,0,0,0⟩]=catP (l.map (ins 0)):=by rw [e];rfl
 refine ⟨?_,?_⟩
 · show rightZ (insU ins l++[⟨0,0,0,0,0⟩]) nc=true
   rw [e2]
   exact catP_right (by omega) (fun b h i hi=>(hb b h i hi).1) (by rw [List.length_map];omega)
 · intro i hi
   rcases List.mem_append.1 hi with hi | hi
   · rw [e] at hi
     have key:∀ (bs:List (List InsZ)) (q:Nat),(∀ b∈bs,∀ i∈b,i.op=16→1≤i.a∧i.a≤3)→∀ i∈catU q bs,i.op=16→1≤i.a∧i.a≤3:=by
      intro bs
      induction bs with
      | nil=>intro q _ i hi;simp [catU] at hi
      | cons b bs ih =>
        intro q h i hi
        rw [catU,List.mem_append] at hi
        rcases hi with hi | hi
        · obtain ⟨j,hj,rfl⟩:=List.mem_map.1 hi
          exact rel_say (h b (by simp) j hj)
        · exact ih _ (fun c hc=>h c (by simp [hc])) i hi
     exact key _ 0 (fun b hb' i hi=>(hb b hb' i hi).2) i hi
   · obtain rfl:=List.mem_singleton.1 hi
     intro h
     cases h

def latchF (c:CallZ):Bool:=(c.w == 1 || c.w == 2) && c.n == 0
def semaF (c:CallZ):Bool:=(c.w == 3 || c.w == 4) && c.n == 0
def mutexF (c:CallZ):Bool:=(c.w == 12 || c.w == 13) && c.n == 0
def rwF (c:CallZ):Bool:=(decide (c.w≥14) && decide (c.w≤17)) && c.n == 0
def onceF (c:CallZ):Bool:=c.w == 18 && c.n == 0

theorem latch_rt {l:List CallZ} {p:List InsZ} (h:codeG latchF latchIns l=.ok p):rightZ p (1:Nat)=true∧SayB p:=by
 refine codeG_right (by decide) (fun p c=>Nat.le_trans (latchIns_len p c) (by decide)) (fun p c=>?_) (fun c _=>?_) h
 · unfold latchIns
   split <;> simp [relI]
 · unfold latchIns
   split <;> decide

theorem sema_rt {l:List CallZ} {p:List InsZ} (h:codeG semaF semaIns l=.ok p):rightZ p (1:Nat)=true∧SayB p:=by
 refine codeG_right (by decide) (fun p c=>Nat.le_trans (semaIns_len p c) (by decide)) (fun p c=>?_) (fun c _=>?_) h
 · unfold semaIns
   split <;> simp [relI]
 · unfold semaIns
   split <;> decide

theorem mutexIns_len (p:Int) (c:CallZ):(mutexIns p c).length≤40:=by
 unfold mutexIns
 split <;> exact Nat.le_of_ble_eq_true rfl

theorem mutex_rt {l:List CallZ} {p:List InsZ} (h:codeG mutexF mutexIns l=.ok p):rightZ p (1:Nat)=true∧SayB p:=by
 refine codeG_right (by decide) mutexIns_len (fun p c=>?_) (fun c _=>?_) h
 · unfold mutexIns
   split <;> simp [relI]
 · unfold mutexIns
   split <;> decide

theorem ticket_rt {l:List CallZ} {p:List InsZ} (h:codeG mutexF ticketIns l=.ok p):rightZ p (2:Nat)=true∧SayB p:=by
 refine codeG_right (by decide) (fun p c=>Nat.le_trans (ticketIns_len p c) (by decide)) (fun p c=>?_) (fun c _=>?_) h
 · unfold ticketIns
   split <;> simp [relI]
 · unfold ticketIns
   split <;> decide

theorem rw_rt {l:List CallZ} {p:List InsZ} (h:codeG rwF rwIns l=.ok p):rightZ p (1:Nat)=true∧SayB p:=by
 refine codeG_right (by decide) (fun p c=>Nat.le_trans (rwIns_len p c) (by decide)) (fun p c=>?_) (fun c _=>?_) h
 · unfold rwIns
   repeat' split
   all_goals simp [relI]
 · unfold rwIns
   repeat' split
   all_goals decide

theorem once_rt {l:List CallZ} {p:List InsZ} (h:codeG onceF onceIns l=.ok p):rightZ p (2:Nat)=true∧SayB p:=by
 refine codeG_right (by decide) (fun p c=>Nat.le_trans (onceIns_len p c) (by decide)) (fun p c=>?_) (fun c _=>?_) h
 · simp [onceIns,relI]
 · simp only [onceIns]
   decide
end
section
section

variable {K:KP}

theorem latchFt (c:CallZ) (h:K (bl (latchF c)) [] []):Does Tryz.prog 176 [callA c] [] K:=by
 refine does Tryz.func176 rfl (by decide) ?_
 refine bZ (fun h1=>?_) (fun h1=>?_)
 · have e:latchF c=(c.n == 0):=by simp [latchF,show (c.w == 1)=true from h1]
   rw [e] at h
   exact h
 · refine bZ (fun h2=>?_) (fun h2=>?_)
   · have e:latchF c=(c.n == 0):=by simp [latchF,show (c.w == 2)=true from h2]
     rw [e] at h
     exact h
   · have e:latchF c=false:=by simp [latchF,show (c.w == 1)=false from h1,show (c.w == 2)=false from h2]
     rw [e] at h
     exact h

theorem semaFt (c:CallZ) (h:K (bl (semaF c)) [] []):Does Tryz.prog 192 [callA c] [] K:=by
 refine does Tryz.func192 rfl (by decide) ?_
 refine bZ (fun h1=>?_) (fun h1=>?_)
 · have e:semaF c=(c.n == 0):=by simp [semaF,show (c.w == 3)=true from h1]
   rw [e] at h
   exact h
 · refine bZ (fun h2=>?_) (fun h2=>?_)
   · have e:semaF c=(c.n == 0):=by simp [semaF,show (c.w == 4)=true from h2]
     rw [e] at h
     exact h
   · have e:semaF c=false:=by simp [semaF,show (c.w == 3)=false from h1,show (c.w == 4)=false from h2]
     rw [e] at h
     exact h

theorem mutexFt (c:CallZ) (h:K (bl (mutexF c)) [] []):Does Tryz.prog 178 [callA c] [] K:=by
 refine does Tryz.func178 rfl (by decide) ?_
 refine bZ (fun h1=>?_) (fun h1=>?_)
 · have e:mutexF c=(c.n == 0):=by simp [mutexF,show (c.w == 12)=true from h1]
   rw [e] at h
   exact h
 · refine bZ (fun h2=>?_) (fun h2=>?_)
   · have e:mutexF c=(c.n == 0):=by simp [mutexF,show (c.w == 13)=true from h2]
     rw [e] at h
     exact h
   · have e:mutexF c=false:=by simp [mutexF,show (c.w == 12)=false from h1,show (c.w == 13)=false from h2]
     rw [e] at h
     exact h

theorem ticketFt (c:CallZ) (h:K (bl (mutexF c)) [] []):Does Tryz.prog 196 [callA c] [] K:=by
 refine does Tryz.func196 rfl (by decide) ?_
 refine bZ (fun h1=>?_) (fun h1=>?_)
 · have e:mutexF c=(c.n == 0):=by simp [mutexF,show (c.w == 12)=true from h1]
   rw [e] at h
   exact h
 · refine bZ (fun h2=>?_) (fun h2=>?_)
   · have e:mutexF c=(c.n == 0):=by simp [mutexF,show (c.w == 13)=true from h2]
     rw [e] at h
     exact h
   · have e:mutexF c=false:=by simp [mutexF,show (c.w == 12)=false from h1,show (c.w == 13)=false from h2]
     rw [e] at h
     exact h

theorem rwFt (c:CallZ) (h:K (bl (rwF c)) [] []):Does Tryz.prog 190 [callA c] [] K:=by
 refine does Tryz.func190 rfl (by decide) ?_
 refine bZ (fun h1=>?_) (fun h1=>?_)
 · refine bZ (fun h2=>?_) (fun h2=>?_)
   · have e:rwF c=(c.n == 0):=by simp [rwF,show decide (c.w≥14)=true from h1,show decide (c.w≤17)=true from h2,-decide_eq_true_eq]
     rw [e] at h
     exact h
   · have e:rwF c=false:=by simp [rwF,show decide (c.w≤17)=false from h2,-decide_eq_false_iff_not]
     rw [e] at h
     exact h
 · have e:rwF c=false:=by simp [rwF,show decide (c.w≥14)=false from h1,-decide_eq_false_iff_not]
   rw [e] at h
   exact h

theorem onceFt (c:CallZ) (h:K (bl (onceF c)) [] []):Does Tryz.prog 180 [callA c] [] K:=by
 refine does Tryz.func180 rfl (by decide) ?_
 refine bZ (fun h1=>?_) (fun h1=>?_)
 · have e:onceF c=(c.n == 0):=by simp [onceF,show (c.w == 18)=true from h1]
   rw [e] at h
   exact h
 · have e:onceF c=false:=by simp [onceF,show (c.w == 18)=false from h1]
   rw [e] at h
   exact h

def MadeBy (f:FuncId) (codeV:List CallZ→Except EZ (List InsZ)):Prop :=
 ∀ (l:List CallZ),l.length≤1000000001→∀ K:KP,(∀ p,codeV l=.ok p→K (.tup [.c (.slc 1 0 p.length none false),okP]) [] [.rows true 2 (l.map rowCallZ),.rows false 5 (p.map rowIns)]) →
   (∀ e,codeV l=.error (.no e)→K (.tup [.c .nilslc,.c (eno e)]) [] [.rows true 2 (l.map rowCallZ)]) →
   (∀ e p,codeV l=.error (.pl e p)→K (.tup [.c .nilslc,.c (.iface 108 (.ptr 1 0))]) [] [.rows true 2 (l.map rowCallZ),.one [.f (.int .i64 e),.f (.int .i64 p)]])→Does Tryz.prog f [cv (.slc 0 0 l.length none false)] [.rows true 2 (l.map rowCallZ)] K

theorem latchMk:MadeBy 125 (codeG latchF latchIns):=fun _ hl _ h h1 h2=>codeAll (.inl ⟨rfl,rfl,rfl⟩) (fun c _ h=>latchFt c h) (fun p c _ hp h=>latchIns' p hp c h) (fun p c=>Nat.le_trans (latchIns_len p c) (by decide)) hl h h1 h2
theorem semaMk:MadeBy 140 (codeG semaF semaIns):=fun _ hl _ h h1 h2=>codeAll (.inr (.inl ⟨rfl,rfl,rfl⟩)) (fun c _ h=>semaFt c h) (fun p c _ hp h=>semaIns' p hp c h) (fun p c=>Nat.le_trans (semaIns_len p c) (by decide)) hl h h1 h2
theorem mutexMk:MadeBy 126 (codeG mutexF mutexIns):=fun _ hl _ h h1 h2=>codeAll (.inr (.inr (.inl ⟨rfl,rfl,rfl⟩))) (fun c _ h=>mutexFt c h) (fun p c _ hp h=>mutexIns' p hp c h) mutexIns_len hl h h1 h2
theorem ticketMk:MadeBy 145 (codeG mutexF ticketIns):=fun _ hl _ h h1 h2=>codeAll (.inr (.inr (.inr (.inl ⟨rfl,rfl,rfl⟩)))) (fun c _ h=>ticketFt c h) (fun p c _ hp h=>ticketIns' p hp c h) (fun p c=>Nat.le_trans (ticketIns_len p c) (by decide)) hl h h1 h2
theorem rwMk:MadeBy 139 (codeG rwF rwIns):=fun _ hl _ h h1 h2=>codeAll (.inr (.inr (.inr (.inr (.inl ⟨rfl,rfl,rfl⟩))))) (fun c _ h=>rwFt c h) (fun p c _ hp h=>rwIns' p hp c h) (fun p c=>Nat.le_trans (rwIns_len p c) (by decide)) hl h h1 h2
theorem onceMk:MadeBy 127 (codeG onceF onceIns):=fun _ hl _ h h1 h2=>codeAll (.inr (.inr (.inr (.inr (.inr ⟨rfl,rfl,rfl⟩))))) (fun c _ h=>onceFt c h) (fun p c _ hp h=>onceIns' p hp c h) (fun p c=>Nat.le_trans (onceIns_len p c) (by decide)) hl h h1 h2

end
end
section
section

variable {K:KP}

end
end
section
def bodyG (c:CallZ):List InsZ:=gathI 0 c
abbrev ownL:List CallZ:=[⟨11,0⟩,⟨7,0⟩,⟨9,0⟩,⟨6,1⟩]

theorem gath_rel (p:Nat) (c:CallZ):gathI (p:Int) c=(bodyG c).map (relI (p:Int)):=by
 obtain ⟨w,n⟩:=c
 rw [bodyG]
 by_cases h6:w=6
 · subst h6
   simp [gathI,registerI,registerT,overI,relI]
 by_cases h10:w=10
 · subst h10
   simp [gathI,awaitI,awaitT,overI,relI,Int.add_assoc]
 by_cases h11:w=11
 · subst h11
   simp [gathI,closesI,closesT,overI,relI]
 by_cases h9:w=9
 · subst h9
   simp [gathI,arriveI,arriveT,awaitI,awaitT,overI,relI,Int.add_assoc]
 by_cases h8:w=8
 · subst h8
   simp [gathI,arriveI,arriveT,tellsI,overI,relI]
 · simp [gathI,h6,h10,h11,h9,h8,arriveI,arriveT,tellsI,overI,relI]

theorem gath_fold:∀ (l:List CallZ) (out:List InsZ),l.foldl (fun out c=>out++gathI out.length c) out=out++catU out.length (l.map bodyG)
 | [],out=>by simp [catU]
 | c::l,out=>by
   rw [List.foldl_cons,gath_fold l,gath_rel]
   simp only [List.map_cons,catU,List.length_append,List.length_map,List.append_assoc]

theorem gathP_cat (l:List CallZ):gathP l=catP (l.map bodyG):=by
 rw [gathP,gathU,gath_fold,catP]
 rfl
end
section
theorem gath_body_right {c:CallZ} (h:gFitB c.w c.n=true):(bodyG c).length≤39∧∀ i∈bodyG c,okI 1 (((bodyG c).length:Int)+1) i=true:=by
 refine ⟨(gathI_len 0 c).1,?_⟩
 obtain ⟨w,n⟩:=c
 unfold gFitB at h
 dsimp only at h
 split at h
 · rename_i hw
   subst hw
   have h:=oTr h
   have e:(bodyG ⟨6,n⟩).all (okI 1 (((bodyG ⟨6,n⟩).length:Int)+1))=true:=by
    simp [bodyG,gathI,registerI,registerT,overI,okI]
    repeat' (first | apply And.intro | rfl)
   exact List.all_eq_true.1 e
 split at h
 · rename_i _ hw
   subst hw
   have h:=oTr h
   have e:(bodyG ⟨10,n⟩).all (okI 1 (((bodyG ⟨10,n⟩).length:Int)+1))=true:=by
    simp [bodyG,gathI,awaitI,awaitT,overI,okI]
    repeat' (first | apply And.intro | rfl)
   exact List.all_eq_true.1 e
 split at h
 · rename_i _ _ hw
   have h:=oTr h
   subst h
   rcases hw with rfl | rfl | rfl | rfl
   all_goals exact List.all_eq_true.1 (by decide)
 · cases h

theorem gather_right {l:List CallZ} {p:List InsZ} (h:gatherV l=.ok p):rightZ p 1=true:=by
 unfold gatherV codeOf at h
 split at h
 · cases h
 rename_i hl
 split at h
 · cases h
 rename_i hn
 obtain rfl:=Except.ok.inj h
 have hfit:∀ c∈l,gFitB c.w c.n=true:=by
  have:∀ (l:List CallZ) (k:Nat),badAt (fun c=>gFitB c.w c.n) k l=none→∀ c∈l,gFitB c.w c.n=true:=by
   intro l
   induction l with
   | nil=>intro k _ c hc;simp at hc
   | cons y l ih =>
     intro k hk c hc
     rw [badAt] at hk
     split at hk
     · rename_i hy
       rcases List.mem_cons.1 hc with rfl | hc
       · exact hy
       · exact ih _ hk c hc
     · cases hk
  exact this l 0 hn
 rw [gathP_cat]
 refine catP_right (by decide) (fun b hb=>?_) ?_
 · obtain ⟨c,hc,rfl⟩:=List.mem_map.1 hb
   exact (gath_body_right (hfit c hc)).2
 · have:=offB_le (n:=39) (l.map bodyG) (fun b hb=>by
    obtain ⟨c,hc,rfl⟩:=List.mem_map.1 hb
    exact (gath_body_right (hfit c hc)).1) (l.map bodyG).length
   rw [List.length_map] at this ⊢
   omega

def phaseD (d:DZ) (a:List UInt8) (xs:List (List UInt8)):AnsZ :=
 match countV a with
 | .error e=>(d,.error (.no e))
 | .ok n =>
   match opensD d 1 (pkWordZ false 0 n n) xs (fun _=>gatherV) with
   | (d',.ok s)=>({ d' with ph:=true },.ok s)
   | (_,.error e)=>(d,.error e)

section

variable {K:KP} {J:KJ}

theorem words_len:∀ {xs:List (List UInt8)} {cls:List (List CallZ)},(∀ y∈xs,y.length≤1000000000)→wordsV xs=some cls→∀ l∈cls,l.length≤1000000001
 | [],cls,_,h,l,hl=>by obtain rfl:=Option.some.inj h;simp at hl
 | y::ys,cls,hy,h,l,hl=>by
   simp only [wordsV] at h
   split at h <;> try cases h
   rename_i c l' hc hl'
   rcases List.mem_cons.1 hl with rfl | hl
   · unfold callsV at hc
     split at hc
     · obtain rfl:=Option.some.inj hc;simp
     · rw [partsV_len hc,split_len]
       have:=count_len (c:=44) y
       have:=hy y (by simp)
       omega
   · exact words_len (fun z hz=>hy z (by simp [hz])) hl' l hl

theorem codes_all {codeV:Nat→List CallZ→Except EZ (List InsZ)} {R:List InsZ→Prop}:∀ {cls:List (List CallZ)} {ps:List (List InsZ)} {i:Nat},codesV codeV i cls=.ok ps→(∀ j l p,codeV j l=.ok p→R p)→∀ p∈ps,R p
 | [],ps,i,h,_,p,hp=>by obtain rfl:=Except.ok.inj h;simp at hp
 | y::ys,ps,i,h,hr,p,hp=>by
   simp only [codesV] at h
   split at h <;> try cases h
   rename_i q hq
   split at h <;> try cases h
   rename_i qs hqs
   rcases List.mem_cons.1 hp with rfl | hp
   · exact hr _ _ _ hq
   · exact codes_all hqs hr p hp

theorem mustU {x:Int} (h:K (fcv (.int .u64 x)) [] []):DoesX Tryz.prog 128 [fcv (.int .u64 x),cv .niliface] [] K J:=by
 refine doesX Tryz.func128 rfl (by decide) ?_
 exact h

theorem saidPhase (d:DZ) (w a:List UInt8) (xs:List (List UInt8)) (ha:a.length≤1000000000) (hxs:∀ y∈xs,y.length≤1000000000) (hxl:xs.length≤1000000000):SaidX 64 d (w::a::xs) (phaseD d a xs):=by
 intro K J v hv hw hK hJ
 refine DoesX.moved moL ?_
 refine doesX Tryz.func64 rfl (by decide) ?_
 have h0l:(0:Int)<(((w::a::xs).length-1:Nat):Int):=by rw [show (w::a::xs).length-1=xs.length+1 from rfl];omega
 have h1l:(1:Int)≤(((w::a::xs).length-1:Nat):Int):=by simp;omega
 refine at2 (by decide) h0l (rd1 (rowStr a) (.str a) rfl rfl ?_)
 change DoesX Tryz.prog 123 _ _ _ _
 refine DoesX.on 17 [1,2,3] _ _ (count ha (fun n hn hn2=>?_) fun e he=>?_)
 · have wn:IntKind.i64.wrap (n:Int)=(n:Int):=wrap_i64 _ (by omega) (by omega)
   refine SX.drawR follows (by decide) ?_
   refine Or.inl (at2 (by decide) h1l ?_)
   change DoesX Tryz.prog 129 [pkPhase false 0 (IntKind.i64.wrap n) (IntKind.i64.wrap n)] _ _ _
   rw [wn]
   refine DoesX.alone 17 (DoesX.of (pkWord false 0 n n (fun hb=>?_) fun hb=>?_))
   · exfalso
     simp [pkRightB] at hb
     omega
   repeat' (first | refine And.intro rfl ?_ | refine And.intro (Or.inl (And.intro (by decide) (And.intro h1l rfl))) ?_ | refine And.intro (And.intro (by decide) (And.intro (by simp) rfl)) ?_ | refine And.intro (Exists.intro _ (Exists.intro _ (And.intro rfl (And.intro rfl rfl)))) ?_ | fail)
   change DoesX Tryz.prog 128 _ _ _ _
   refine DoesX.alone 17 (mustU ?_)
   repeat' (first | refine And.intro rfl ?_ | refine And.intro (Or.inl (And.intro (by decide) (And.intro h1l rfl))) ?_ | refine And.intro (And.intro (by decide) (And.intro (by simp) rfl)) ?_ | refine And.intro (Exists.intro _ (Exists.intro _ (And.intro rfl (And.intro rfl rfl)))) ?_ | fail)
   change DoesX Tryz.prog 124 _ _ _ _
   refine DoesX.alone 17 (DoesX.of (alike ?_))
   repeat' (first | refine And.intro rfl ?_ | refine And.intro (Or.inl (And.intro (by decide) (And.intro h1l rfl))) ?_ | refine And.intro (And.intro (by decide) (And.intro (by simp) rfl)) ?_ | refine And.intro (Exists.intro _ (Exists.intro _ (And.intro rfl (And.intro rfl rfl)))) ?_ | fail)
   have hcl:∀ cls,wordsV xs=some cls→∀ l∈cls,l.length≤1000000001:=fun cls h l hl=>words_len hxs h l hl
   have hwz:0≤pkWordZ false 0 n n∧pkWordZ false 0 n n<18446744073709551616:=by simp [pkWordZ];omega
   refine opens (d:=d) (v:=v) (ws:=w::a::xs) (xs:=xs) (o:=2) (n:=xs.length) (nc:=1) (x:=pkWordZ false 0 n n) (f:=130) (bx:=bxH 130) (cp:=[17]) (g:=175) (codeV:=fun _=>gatherV) (.inl ⟨rfl,rfl⟩) hv hw (fun i _=>by rw [show 2+i=i+1+1 by omega];rfl) rfl hxl hxs (by decide) hwz
    (fun cls h=>alikeX (hcl cls h) fun l hl K h0 h1 h2=>gCodeAll hl h0 h1 h2) (fun cls ps h1 h2=>codes_all h2 fun _ l p hp=>gather_right hp) (fun s v1 hs hv1 hw1=>?_) fun e v1 he hv1=>?_
   · have hr:phaseD d a xs=({ (opensD d 1 (pkWordZ false 0 n n) xs (fun _=>gatherV)).1 with ph:=true },.ok s):=by
      rw [phaseD,hn]
      dsimp only
      generalize opensD d 1 (pkWordZ false 0 n n) xs (fun _=>gatherV)=r at hs
      obtain ⟨d1,r1⟩:=r
      dsimp only at hs
      subst hs
      rfl
     rw [hr] at hK
     repeat' (first | refine And.intro rfl ?_ | refine And.intro (Or.inl (And.intro (by decide) (And.intro h1l rfl))) ?_ | refine And.intro (And.intro (by decide) (And.intro (by simp) rfl)) ?_ | refine And.intro (Exists.intro _ (Exists.intro _ (And.intro rfl (And.intro rfl rfl)))) ?_ | fail)
     refine And.intro ?_ (hK _ v1 rfl hv1 hw1)
     decide
   · have hr:phaseD d a xs=(d,.error (.no e)):=by
      rw [phaseD,hn]
      dsimp only
      generalize opensD d 1 (pkWordZ false 0 n n) xs (fun _=>gatherV)=r at he
      obtain ⟨d1,r1⟩:=r
      dsimp only at he
      subst he
      rfl
     rw [hr] at hJ
     refine ⟨_,rfl,And.intro (by decide) ?_⟩
     exact hJ _ v1 rfl hv1 hw
 · have hr:phaseD d a xs=(d,.error (.no e)):=by rw [phaseD,he]
   rw [hr] at hJ
   refine ⟨_,rfl,And.intro (by decide) ?_⟩
   exact hJ _ v rfl hv hw

end
end
section
theorem opensD_err {d:DZ} {nc:Nat} {x:Int} {xs:List (List UInt8)} {codeV:Nat→List CallZ→Except EZ (List InsZ)} {e:EZ} (h:(opensD d nc x xs codeV).2=.error e):opensD d nc x xs codeV=(d,.error e)∧∃ n,e=.no n:=by
 unfold opensD at h ⊢
 split at h
 · cases h;exact ⟨rfl,_,rfl⟩
 · split at h
   · cases h;exact ⟨rfl,_,rfl⟩
   · split at h
     · rename_i h16
       cases h
       exact ⟨if_pos h16,_,rfl⟩
     · cases h

section

variable {K:KP} {J:KJ}

theorem saidM {f cf:FuncId} {nc:Nat} {codeV:List CallZ→Except EZ (List InsZ)}
  (hf:(f=62∧cf=126∧nc=1)∨(f=73∧cf=145∧nc=2)∨(f=69∧cf=139∧nc=1)∨(f=63∧cf=127∧nc=2))
  (hmk:MadeBy cf codeV) (hrt:∀ l p,codeV l=.ok p→rightZ p nc=true) (d:DZ) (w:List UInt8) (xs:List (List UInt8)) (hxs:∀ y∈xs,y.length≤1000000000) (hxl:xs.length≤1000000000):SaidX f d (w::xs) (opensD d nc 0 xs fun _=>codeV):=by
 intro K J v hv hw hK hJ
 refine DoesX.moved moL ?_
 have hcl:∀ cls,wordsV xs=some cls→∀ l∈cls,l.length≤1000000001:=fun cls h l hl=>words_len hxs h l hl
 rcases hf with ⟨rfl,rfl,rfl⟩ | ⟨rfl,rfl,rfl⟩ | ⟨rfl,rfl,rfl⟩ | ⟨rfl,rfl,rfl⟩ <;> (
  first
   | refine doesX Tryz.func62 rfl (by decide) ?_
   | refine doesX Tryz.func73 rfl (by decide) ?_
   | refine doesX Tryz.func69 rfl (by decide) ?_
   | refine doesX Tryz.func63 rfl (by decide) ?_
  change DoesX Tryz.prog 124 _ _ _ _
  refine DoesX.alone 17 (DoesX.of (alike ?_))
  refine opens (d:=d) (v:=v) (ws:=w::xs) (xs:=xs) (o:=1) (n:=xs.length) (x:=0) (f:=_) (cp:=[17]) (g:=175) (codeV:=fun _=>codeV) (.inl ⟨rfl,rfl⟩) hv hw (fun i _=>by rw [Nat.add_comm];rfl) rfl hxl hxs (by decide) (by decide)
   (fun cls h=>alikeX (hcl cls h) hmk) (fun cls ps h1 h2=>codes_all h2 fun _ l p hp=>hrt l p hp) (fun s v1 hs hv1 hw1=>?_) fun e v1 he hv1=>?_
  · exact And.intro (by decide) (hK _ v1 hs hv1 hw1)
  · rw [(opensD_err he).1] at hJ
    exact ⟨_,rfl,And.intro (by decide) (hJ _ v1 rfl hv1 hw)⟩)

def openN (d:DZ) (a:List UInt8) (xs:List (List UInt8)) (codeV:List CallZ→Except EZ (List InsZ)):AnsZ :=
 match countV a with
 | .error e=>(d,.error (.no e))
 | .ok n=>opensD d 1 n xs fun _=>codeV

theorem saidN {f cf:FuncId} {codeV:List CallZ→Except EZ (List InsZ)}
  (hf:(f=61∧cf=125)∨(f=70∧cf=140))
  (hmk:MadeBy cf codeV) (hrt:∀ l p,codeV l=.ok p→rightZ p (1:Nat)=true) (d:DZ) (w a:List UInt8) (xs:List (List UInt8)) (ha:a.length≤1000000000) (hxs:∀ y∈xs,y.length≤1000000000) (hxl:xs.length≤1000000000):SaidX f d (w::a::xs) (openN d a xs codeV):=by
 intro K J v hv hw hK hJ
 refine DoesX.moved moL ?_
 have hcl:∀ cls,wordsV xs=some cls→∀ l∈cls,l.length≤1000000001:=fun cls h l hl=>words_len hxs h l hl
 have h0l:(0:Int)<(((w::a::xs).length-1:Nat):Int):=by rw [show (w::a::xs).length-1=xs.length+1 from rfl];omega
 have h1l:(1:Int)≤(((w::a::xs).length-1:Nat):Int):=by simp;omega
 rcases hf with ⟨rfl,rfl⟩ | ⟨rfl,rfl⟩ <;> (
  first
   | refine doesX Tryz.func61 rfl (by decide) ?_
   | refine doesX Tryz.func70 rfl (by decide) ?_
  refine SX.drawR follows (by decide) ?_
  refine at2 (by decide) h0l (rd1 (rowStr a) (.str a) rfl rfl ?_)
  refine Or.inl (at2 (by decide) h1l ?_)
  change DoesX Tryz.prog 123 _ _ _ _
  refine DoesX.on 17 [1,2,3] _ _ (count ha (fun n hn hn2=>?_) fun e he=>?_)
  · have hr:openN d a xs codeV=opensD d 1 n xs fun _=>codeV:=by rw [openN,hn]
    rw [hr] at hK hJ
    repeat' (first | refine And.intro rfl ?_ | refine And.intro (Or.inl (And.intro (by decide) (And.intro h1l rfl))) ?_ | refine And.intro (And.intro (by decide) (And.intro h0l rfl)) ?_ | refine And.intro (Exists.intro _ (Exists.intro _ (And.intro rfl (And.intro rfl rfl)))) ?_ | fail)
    change DoesX Tryz.prog 124 _ _ _ _
    refine DoesX.alone 17 (DoesX.of (alike ?_))
    repeat' (first | refine And.intro rfl ?_ | refine And.intro (Or.inl (And.intro (by decide) (And.intro h1l rfl))) ?_ | refine And.intro (And.intro (by decide) (And.intro h0l rfl)) ?_ | refine And.intro (Exists.intro _ (Exists.intro _ (And.intro rfl (And.intro rfl rfl)))) ?_ | fail)
    refine opens (d:=d) (v:=v) (ws:=w::a::xs) (xs:=xs) (o:=2) (n:=xs.length) (nc:=1) (x:=n) (f:=_) (cp:=[17]) (g:=175) (codeV:=fun _=>codeV) (.inl ⟨rfl,rfl⟩) hv hw (fun i _=>by rw [show 2+i=i+1+1 by omega];rfl) rfl hxl hxs (by decide) (by omega)
     (fun cls h=>alikeX (hcl cls h) hmk) (fun cls ps h1 h2=>codes_all h2 fun _ l p hp=>hrt l p hp) (fun s v1 hs hv1 hw1=>?_) fun e v1 he hv1=>?_
    · repeat' (first | refine And.intro rfl ?_ | refine And.intro (Or.inl (And.intro (by decide) (And.intro h1l rfl))) ?_ | refine And.intro (And.intro (by decide) (And.intro h0l rfl)) ?_ | refine And.intro (Exists.intro _ (Exists.intro _ (And.intro rfl (And.intro rfl rfl)))) ?_ | fail)
      refine And.intro ?_ (hK _ v1 hs hv1 hw1)
      decide
    · rw [(opensD_err he).1] at hJ
      exact ⟨_,rfl,And.intro (by decide) (hJ _ v1 rfl hv1 hw)⟩
  · have hr:openN d a xs codeV=(d,.error (.no e)):=by rw [openN,he]
    rw [hr] at hJ
    exact ⟨_,rfl,And.intro (by decide) (hJ _ v rfl hv hw)⟩)

end
end
section
def tradeIns (id p:Int) (c:CallZ):List InsZ :=
 [⟨1,4,c.n+1,0,0⟩,⟨1,5,(1+id)+(c.n+1)*65536,0,0⟩,⟨6,1,0,0,0⟩,⟨11,1,0,p+12,0⟩,⟨1,2,0,0,0⟩,⟨9,3,0,1,2⟩,⟨11,3,0,p+2,0⟩,⟨5,6,1,0,16⟩,⟨7,0,4,6,0⟩,⟨15,0,1,6,0⟩,⟨5,2,1,16,16⟩,⟨10,p+21,0,0,0⟩,
  ⟨9,3,0,1,5⟩,⟨11,3,0,p+2,0⟩,⟨6,2,1+id,0,0⟩,⟨11,2,0,p+17,0⟩,⟨10,p+19,0,0,0⟩,⟨14,1+id,2,0,0⟩,⟨10,p+14,0,0,0⟩,⟨1,3,0,0,0⟩,⟨7,1+id,3,-1,0⟩,⟨3,2,2,-1,0⟩,⟨16,3,2,0,0⟩]

def tradeU (id:Int) (l:List CallZ):List InsZ:=l.foldl (fun out c=>out++tradeIns id out.length c) []
def tradeP (id:Int) (l:List CallZ):List InsZ:=tradeU id l++[⟨0,0,0,0,0⟩]
def tradeFit (c:CallZ):Prop:=c.w=5∧0≤c.n∧c.n≤1000

section

variable {K:KP}

theorem tradeOne (id p:Int) (hid:0≤id∧id<16) (hp:0≤p∧p≤1000000) (c:CallZ) (hc:tradeFit c) (h:K (cv (.slc 0 0 23 none true)) [] [.rows false 5 ((tradeIns id p c).map rowIns)]):Does Tryz.prog 198 [i64 p,i64 id,i64 c.n] [] K:=by
 obtain ⟨_,hn⟩:=hc
 refine does Tryz.func198 rfl (by decide) ?_
 rw [tradeIns,←wrap_i64 (p+12) (by omega) (by omega),←wrap_i64 (p+2) (by omega) (by omega),←wrap_i64 (p+21) (by omega) (by omega),←wrap_i64 (p+17) (by omega) (by omega),←wrap_i64 (p+19) (by omega) (by omega),←wrap_i64 (p+14) (by omega) (by omega),
  ←wrap_i64 ((1+id)+(c.n+1)*65536) (by omega) (by omega),←wrap_i64 ((c.n+1)*65536) (by omega) (by omega),←wrap_i64 (1+id) (by omega) (by omega),←wrap_i64 (c.n+1) (by omega) (by omega)] at h
 exact h

end
end
section
def tradeF (c:CallZ):Bool:=c.w == 5 && (decide (0≤c.n) && decide (c.n≤1000))

def tradeV (i:Nat) (l:List CallZ):Except EZ (List InsZ):=if 16≤i then .error (.no 2) else codeG tradeF (tradeIns i) l

theorem trade_rt {i:Nat} {l:List CallZ} {p:List InsZ} (h:tradeV i l=.ok p):rightZ p (17:Nat)=true∧SayB p:=by
 unfold tradeV at h
 split at h
 · cases h
 rename_i hi
 refine codeG_right (by decide) (fun p c=>by rw [show (tradeIns i p c).length=23 from rfl];decide) (fun p c=>?_) (fun c _=>?_) h
 · simp [tradeIns,relI]
 · simp [tradeIns,okI,fo,formZ,fitsZ]
   omega

section

variable {K:KP} {J:KJ}

theorem tradeAll {i:Nat} {l:List CallZ} (_hlb:l.length≤1000000001)
  (h:∀ p,tradeV i l=.ok p→K (.tup [.c (.slc 1 0 p.length none false),okP]) [] [.rows true 2 (l.map rowCallZ),.rows false 5 (p.map rowIns)])
  (h1:∀ e,tradeV i l=.error (.no e)→K (.tup [.c .nilslc,.c (eno e)]) [] [.rows true 2 (l.map rowCallZ)])
  (h2:∀ e p,tradeV i l=.error (.pl e p)→K (.tup [.c .nilslc,.c (.iface 108 (.ptr 1 0))]) [] [.rows true 2 (l.map rowCallZ),.one [.f (.int .i64 e),.f (.int .i64 p)]]) :
  Does Tryz.prog 146 [i64 i,cv (.slc 0 0 l.length none false)] [.rows true 2 (l.map rowCallZ)] K:=by
 refine Does.keep 1 rfl ?_
 refine does Tryz.func146 rfl (by decide) ?_
 have en:decide ((i:Int)<0)=false:=decide_eq_false (by omega)
 refine bZ (fun h=>?_) (fun hid=>?_)
 · have:(i:Int)≥16:=oTr h
   exact ⟨1,[0],_,_,rfl,rfl,by decide,by decide,rfl,rfl,rfl,rfl,rfl,h1 2 (by rw [tradeV,if_pos (by omega)])⟩
 have hid:¬ 16≤i:=by
  have:¬(i:Int)≥16:=oFa hid
  omega
 have ev:tradeV i l=codeG tradeF (tradeIns i) l:=if_neg hid
 rw [ev] at h h1 h2
 have hil:∀ (p:Int) (c:CallZ),(tradeIns i p c).length≤40:=fun p c=>by rw [show (tradeIns i p c).length=23 from rfl];decide
 generalize hins:tradeIns (i:Int)=ins at *
 refine bZ (fun hlt=>?_) (fun hlt=>?_)
 · have hlt:(l.length:Int) > 12:=oTr hlt
   exact ⟨1,[0],_,_,rfl,rfl,by decide,by decide,rfl,rfl,rfl,rfl,rfl,h1 4 (by rw [codeG,codeOf,if_pos (by omega)])⟩
 have hl:¬ 12<l.length:=by
  have hlt:¬(l.length:Int) > 12:=oFa hlt
  omega
 refine SS.nil 6 5 (by decide) rfl ?_
 refine SS.loop (fun k:Nat=>k≤l.length∧∀ (j:Nat) (x:CallZ),j<k→l[j]? = some x→tradeF x=true) (fun k=>[(0,i64 i),(6,cv (.slc 1 0 (insU ins (l.take k)).length none false)),(20,cv (.slc 0 0 l.length none false)),(21,i64 l.length),(22,i64 k)]) (fun k=>[.rows true 2 (l.map rowCallZ),.rows false 5 ((insU ins (l.take k)).map rowIns)]) (fun k=>l.length-k) [1]
  (At.mk' [0,6,20,21,22] 0 ⟨by simp,fun j x hj=>absurd hj (by omega)⟩ ⟨rfl,rfl⟩ rfl rfl (by simp) (by simp) (by simp)) ?_
 rintro k ⟨hi,hfit⟩
 change k≤l.length at hi
 have hul:=insU_len hil l k
 refine S_r ?_
 refine bZ (fun hlt=>?_) (fun hlt=>?_)
 · have hlt:k<l.length:=by
    have:=oTr hlt
    have:(k:Int)<(l.length:Int):=this
    omega
   obtain ⟨c,hc⟩ : ∃ c,l[k]? = some c:=⟨_,List.getElem?_eq_getElem hlt⟩
   have hu:=insU_take ins l k c hc
   have bad:tradeF c=false→codeG tradeF ins l=.error (.pl 1 k):=fun hfc=>by
    rw [codeG,codeOf,if_neg hl,badAt_hit (fit:=tradeF) (c:=c) hfc 0 hfit hc,Nat.zero_add]
   refine SS.inlR ?_
   refine at2 (a:=(0:Int)≤(k:Int)) (b:=(k:Int)<(l.length:Int)) (by omega) (by omega) (rdA (rowCallZ c) (show (l.map rowCallZ)[0+Int.toNat (k:Int)]? = some (rowCallZ c) by simp [hc]) ?_)
   refine bZ (fun h5=>?_) (fun h5=>?_)
   · have h5:c.w≠5:=by simpa using (show (c.w != 5)=true from h5)
     exact ⟨4,[0,3],[.rows true 2 (l.map rowCallZ),.one [.f (.int .i64 1),.f (.int .i64 k)]],.tup [.c .nilslc,.c (.iface 108 (.ptr 1 0))],rfl,rfl,by decide,by decide,rfl,rfl,rfl,rfl,rfl,h2 1 k (bad (by simp [tradeF];omega))⟩
   have h5:c.w=5:=by simpa using (show (c.w != 5)=false from h5)
   refine bZ (fun h6=>?_) (fun h6=>?_)
   · have h6:c.n<0:=oTr h6
     exact ⟨4,[0,3],[.rows true 2 (l.map rowCallZ),.one [.f (.int .i64 1),.f (.int .i64 k)]],.tup [.c .nilslc,.c (.iface 108 (.ptr 1 0))],rfl,rfl,by decide,by decide,rfl,rfl,rfl,rfl,rfl,h2 1 k (bad (by simp [tradeF];omega))⟩
   have h6:¬c.n<0:=oFa h6
   refine bZ (fun h7=>?_) (fun h7=>?_)
   · have h7:c.n > 1000:=oTr h7
     exact ⟨4,[0,3],[.rows true 2 (l.map rowCallZ),.one [.f (.int .i64 1),.f (.int .i64 k)]],.tup [.c .nilslc,.c (.iface 108 (.ptr 1 0))],rfl,rfl,by decide,by decide,rfl,rfl,rfl,rfl,rfl,h2 1 k (bad (by simp [tradeF];omega))⟩
   have h7:¬c.n > 1000:=oFa h7
   have hfc:tradeF c=true:=by simp [tradeF];omega
   change Does Tryz.prog 198 _ _ _
   refine Does.alone 3 (tradeOne i (insU ins (l.take k)).length (by omega) (by omega) c ⟨h5,by omega,by omega⟩ ?_)
   rw [hins]
   have hol:(ins (insU ins (l.take k)).length c).length=23:=by rw [←hins];rfl
   generalize ho:ins (insU ins (l.take k)).length c=o at *
   have e:List.take 23 (List.drop 0 (o.map rowIns))=o.map rowIns:=by rw [List.drop_zero,List.take_of_length_le (by simp [hol])]
   have e2:(o.map rowIns).length=23:=by simp [hol]
   refine And.intro (by simp [hol]) (Or.inl (And.intro rfl (And.intro (by simp) (And.intro ?_ (And.intro ?_ ?_)))))
   · rw [e,e2]
     show ((insU ins (l.take k)).length+23)*40≤_
     omega
   · rw [e,e2]
     omega
   · rw [e,e2]
     refine At.mk' [0,6,20,21,22] (k+1) ⟨⟨by show k+1≤l.length;omega,fun j x hj hx=>?_⟩,by omega⟩ ⟨?_,rfl⟩ ?_ rfl (by simp) (by simp) (by decide)
     · rcases Nat.lt_or_ge j k with hji | hji
       · exact hfit j x hji hx
       · obtain rfl:j=k:=by omega
         rw [hc] at hx
         obtain rfl:=Option.some.inj hx
         exact hfc
     · rw [wrap_i64 (k+1) (by omega) (by omega),hu,List.length_append,hol]
       rfl
     · rw [hu,List.map_append]
       rfl
 · have hlt:¬(k:Int)<(l.length:Int):=oFa hlt
   obtain rfl:k=l.length:=by omega
   rw [List.take_length] at hul ⊢
   have hv:codeG tradeF ins l=.ok (insU ins l++[⟨0,0,0,0,0⟩]):=by
    rw [codeG,codeOf,if_neg hl,badAt_none 0 fun c hc=>by
     obtain ⟨j,hj,rfl⟩:=List.mem_iff_getElem.1 hc
     exact hfit j _ hj (List.getElem?_eq_getElem hj)]
   have h:=h _ hv
   refine And.intro (by decide) (Or.inl (And.intro rfl (And.intro (by simp) (And.intro ?_ (And.intro ?_ ?_)))))
   · show ((insU ins l).length+1)*40≤_
     omega
   · show (insU ins l).length+1≤_
     omega
   · rw [List.length_append,List.map_append] at h
     exact ⟨3,[0,1],[.rows true 2 (l.map rowCallZ),.rows false 5 ((insU ins l).map rowIns++[rowIns ⟨0,0,0,0,0⟩])],.tup [.c (.slc 1 0 ((insU ins l).length+1) none false),okP],rfl,rfl,by decide,by decide,rfl,rfl,rfl,rfl,rfl,h⟩

theorem tradeX {cls:List (List CallZ)} (hcl:∀ l∈cls,l.length≤1000000001):CodeX 146 [] (.rows2 false 5 []) cls tradeV:=by
 intro i l hl K h h1 h2
 refine Does.row2 (l.map rowCallZ) (by simp [hl]) (by simp) ?_
 refine Does.on 2 [0] _ _ (tradeAll (hcl l (List.mem_of_getElem? hl)) (fun p hp=>?_) (fun e he=>?_) fun e p he=>?_)
 · exact ⟨rfl,h p hp⟩
 · exact ⟨rfl,h1 e he⟩
 · exact ⟨rfl,h2 e p he⟩

theorem saidTrade (d:DZ) (w:List UInt8) (xs:List (List UInt8)) (hxs:∀ y∈xs,y.length≤1000000000) (hxl:xs.length≤1000000000):SaidX 74 d (w::xs) (opensD d 17 0 xs tradeV):=by
 intro K J v hv hw hK hJ
 refine DoesX.moved moL ?_
 have hcl:∀ cls,wordsV xs=some cls→∀ l∈cls,l.length≤1000000001:=fun cls h l hl=>words_len hxs h l hl
 refine doesX Tryz.func74 rfl (by decide) ?_
 refine DoesX.more (f:=122) 5 ?_
 refine opens (d:=d) (v:=v) (ws:=w::xs) (xs:=xs) (o:=1) (n:=xs.length) (x:=0) (f:=0) (cp:=[]) (g:=146) (codeV:=tradeV) (.inr ⟨rfl,rfl⟩) hv hw (fun i _=>by rw [Nat.add_comm];rfl) rfl hxl hxs (by decide) (by decide)
  (fun cls h=>tradeX (hcl cls h)) (fun cls ps h1 h2=>codes_all h2 fun _ l p hp=>(trade_rt hp).1) (fun s v1 hs hv1 hw1=>?_) fun e v1 he hv1=>?_
 · exact And.intro (by decide) (hK _ v1 hs hv1 hw1)
 · rw [(opensD_err he).1] at hJ
   exact ⟨_,rfl,And.intro (by decide) (hJ _ v1 rfl hv1 hw)⟩

end
end
end Go.Mac
end
