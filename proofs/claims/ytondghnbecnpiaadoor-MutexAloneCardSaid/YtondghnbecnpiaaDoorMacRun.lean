/- The machine of abstract values, part 8b: the same, unfolded alike by whoever computes and by whoever checks: recursion by recursors. -/
import Derived.Test.YtondghnbecnpiaaDoorMacDraw
namespace Go.Mac
open Go

abbrev KT := Tm → List Nat → List PO → Prop

def opR (P : Program) (nt : Nat) (all : List Oper) (o : Oper) (ih : Tm → List Nat → List PO → KT → Prop) (T : Tm) (M : List Nat) (H : List PO) (K : KT) : Prop :=
  match o.guard with
  | none => aopX P T H (fun v M' H' => killT M' T fun T' => putT nt T' o.dst v fun T'' => addM M' M fun M'' => ih T'' M'' H' K) o.op
  | some (j, want) =>
    match (nth all j).bind (·.dst) with
    | some d =>
      match lk T d with
      | .p (.c (.f (.bool b))) =>
        brc b
          (match want with
            | true => aopX P ((d, bl true) :: T) H (fun v M' H' => killT M' ((d, bl true) :: T) fun T' => putT nt T' o.dst v fun T'' => addM M' M fun M'' => ih T'' M'' H' K) o.op
            | false => putT nt ((d, bl true) :: T) o.dst undefA fun T'' => ih T'' M H K)
          (match want with
            | false => aopX P ((d, bl false) :: T) H (fun v M' H' => killT M' ((d, bl false) :: T) fun T' => putT nt T' o.dst v fun T'' => addM M' M fun M'' => ih T'' M'' H' K) o.op
            | true => putT nt ((d, bl false) :: T) o.dst undefA fun T'' => ih T'' M H K)
      | .tup [] => putT nt T o.dst undefA fun T'' => ih T'' M H K
      | _ => False
    | none => False

noncomputable def opsR (P : Program) (nt : Nat) (all : List Oper) (ops : List Oper) : Tm → List Nat → List PO → KT → Prop :=
  @List.rec Oper (fun _ => Tm → List Nat → List PO → KT → Prop) (fun T M H K => K T M H) (fun o _ ih => opR P nt all o ih) ops

theorem opsR_eq (P : Program) (nt : Nat) (all : List Oper) : ∀ (ops : List Oper), opsR P nt all ops = runOps P nt all ops
  | [] => rfl
  | o :: rest => by
    have ih := opsR_eq P nt all rest
    funext T M H K
    show opR P nt all o (opsR P nt all rest) T M H K = _
    rw [ih]
    rfl

abbrev QT := Ex → Tm → List Nat → List PO → Prop
abbrev CT := Tm → List Nat → List PO → QT → Prop

def regionR (P : Program) (nt N0 : Nat) (id : Nat) (ops : Array Oper) (draw : Bool) : CT := fun T M H Q =>
  match draw with
  | false => opsR P nt ops.toList ops.toList T M H fun T' M' H' => Q .normal T' M' H'
  | true => SS P nt N0 (.region id ops true) T M H Q

def seqR (P : Program) (nt N0 : Nat) (a b : Code) (ia ib : CT) : CT := fun T M H Q =>
  match joins a with
  | false => ia T M H fun e T' M' H' => match e with
    | .normal => ib T' M' H' Q
    | e => Q e T' M' H'
  | true => SS P nt N0 (.seq a b) T M H Q

def condR (c : Operand) (ia ib : CT) : CT := fun T M H Q =>
  match ev T c with
  | .p (.c (.f (.bool t))) => brc t (ia (setC c true T) M H Q) (ib (setC c false T) M H Q)
  | _ => False

def blockR (id : Nat) (ic : CT) : CT := fun T M H Q =>
  ic T M H fun e T' M' H' => match e with
    | .exit j => match Nat.beq j id with
      | true => Q .normal T' M' H'
      | false => Q (.exit j) T' M' H'
    | e => Q e T' M' H'

noncomputable def SR (P : Program) (nt N0 : Nat) (c : Code) : CT :=
  @Code.rec (fun _ => CT) (fun T M H Q => Q .normal T M H) (fun id ops draw => regionR P nt N0 id ops draw) (fun a b ia ib => seqR P nt N0 a b ia ib) (fun c _ _ ia ib => condR c ia ib) (fun id _ ic => blockR id ic)
    (fun c _ => fun T M H Q => SS P nt N0 (.loop c) T M H Q) (fun _ _ _ _ _ _ => fun _ _ _ _ => False) (fun id => fun T M H Q => Q (.exit id) T M H) (fun _ _ => fun _ _ _ _ => False) (fun _ => fun T M H Q => Q .normal T M H)
    (fun _ => fun _ _ _ _ => False) (fun T M H Q => Q .ret T M H) (fun _ => fun _ _ _ _ => False) c

theorem SR_eq (P : Program) (nt N0 : Nat) : ∀ (c : Code), SR P nt N0 c = S P nt N0 c
  | .skip => rfl
  | .region id ops draw => by
    funext T M H Q
    show regionR P nt N0 id ops draw T M H Q = _
    unfold regionR S
    rw [opsR_eq]
    cases draw <;> rfl
  | .seq a b => by
    funext T M H Q
    show seqR P nt N0 a b (SR P nt N0 a) (SR P nt N0 b) T M H Q = _
    rw [SR_eq P nt N0 a, SR_eq P nt N0 b]
    conv => rhs; unfold S
    unfold seqR
    rfl
  | .cond c a b => by
    funext T M H Q
    show condR c (SR P nt N0 a) (SR P nt N0 b) T M H Q = _
    rw [SR_eq P nt N0 a, SR_eq P nt N0 b]
    conv => rhs; unfold S
    unfold condR
    rfl
  | .block id c => by
    funext T M H Q
    show blockR id (SR P nt N0 c) T M H Q = _
    rw [SR_eq P nt N0 c]
    conv => rhs; unfold S
    unfold blockR
    rfl
  | .loop c => rfl
  | .rangeFunc _ _ _ _ => rfl
  | .exit _ => rfl
  | .scope _ => rfl
  | .label _ => rfl
  | .goto _ => rfl
  | .ret => rfl
  | .refuse _ => rfl

/-- A function's body. -/
def FnR (P : Program) (fn : Func) (c : Code) (args : List AV) (H : List PO) (K : AV → List Nat → List PO → Prop) : Prop :=
  lenK H numbers fun N0 => startK args numbers fun T => SR P fn.ntmps N0 c T [] H fun e T' M' H' =>
    match e with
    | .exit _ => False
    | _ => resK P T' H' fn.results.toList fun vs => tupA vs fun v => endK N0 v M' H' K

theorem does {P : Program} {f : FuncId} {fn : Func} {c : Code} {args : List AV} {H : List PO} {K : AV → List Nat → List PO → Prop} (hf : P.funcs[f]? = some fn) (hc : fn.body = some c) (hn : fn.name ≠ "runtime.NumGoroutine")
    (h : FnR P fn c args H K) : Does P f args H K := by
  refine does_of hf hc hn ?_
  unfold FnR at h
  simp only [SR_eq] at h
  exact h

theorem S_r {P : Program} {nt N0 : Nat} {c : Code} {T : Tm} {M : List Nat} {H : List PO} {Q : QT} (h : SR P nt N0 c T M H Q) : SS P nt N0 c T M H Q := by
  rw [SR_eq] at h
  exact S_ok _ _ _ _ _ h

theorem SS.inlR {P : Program} {nt N0 : Nat} {x y : Code} {T : Tm} {M : List Nat} {H : List PO} {Q : QT} (h : SR P nt N0 x T M H fun e T' M' H' => match e with
      | .normal => SR P nt N0 y T' M' H' Q
      | e => Q e T' M' H') : SS P nt N0 (.seq x y) T M H Q := by
  refine SS.inl ?_
  rw [SR_eq, SR_eq] at h
  exact h

/-! ### Regions whose order is open -/

abbrev DT := List Nat → List Nat → Tm → List Nat → List PO → KT → Prop

def checkR (P : Program) (all : List Oper) (E S : List Nat) (T : Tm) (H : List PO) (k : Prop) (i : Nat) (ih : List Oper → Prop) (os : List Oper) : Prop :=
  match os with
  | o :: os => bif quiet o.op && has E i && !has S i then again P all T H o ∧ ih os else ih os
  | [] => k

noncomputable def checksR (P : Program) (all : List Oper) (E S : List Nat) (T : Tm) (H : List PO) (k : Prop) (is : List Nat) : List Oper → Prop :=
  @List.rec Nat (fun _ => List Oper → Prop) (fun _ => k) (fun i _ ih => checkR P all E S T H k i ih) is

theorem checksR_eq (P : Program) (all : List Oper) (E S : List Nat) (T : Tm) (H : List PO) (k : Prop) : ∀ (is : List Nat) (os : List Oper), checksR P all E S T H k is os = checks P all E S T H k is os
  | [], os => by cases os <;> rfl
  | i :: is, [] => rfl
  | i :: is, o :: os => by
    show checkR P all E S T H k i (checksR P all E S T H k is) (o :: os) = _
    rw [funext (checksR_eq P all E S T H k is)]
    rfl

def drawStep (P : Program) (nt : Nat) (all : List Oper) (ih : DT) : DT := fun E S T M H K =>
    match nextQ E numbers all with
    | some (i, o) => guarded all T o fun T' b =>
      match b with
      | true => aop P T' H (fun v _ _ => putT nt T' o.dst v fun T'' => ih (i :: E) S T'' M H K) o.op
      | false => putT nt T' o.dst undefA fun T'' => ih (i :: E) S T'' M H K
    | none =>
      match effs E numbers all with
      | [] => bif hasAll E (numbers.take all.length) then K T M H else False
      | R => allR (fun (x : Nat × Oper) => guarded all T x.2 fun T' b =>
        match b with
        | true => aop P T' H (fun v M' H' => killT M' T' fun T1 => putT nt T1 x.2.dst v fun T2 => addM M' M fun M2 =>
            checksR P all E (ahead all 1000 [x.1] S) T2 H' (ih (x.1 :: E) (ahead all 1000 [x.1] S) T2 M2 H' K) numbers all) x.2.op
        | false => putT nt T' x.2.dst undefA fun T2 =>
            checksR P all E (ahead all 1000 [x.1] S) T2 H (ih (x.1 :: E) (ahead all 1000 [x.1] S) T2 M H K) numbers all) R

noncomputable def drawnR (P : Program) (nt : Nat) (all : List Oper) (n : Nat) : DT :=
  @Nat.rec (fun _ => DT) (fun _ _ _ _ _ _ => False) (fun _ ih => drawStep P nt all ih) n

theorem drawnR_eq (P : Program) (nt : Nat) (all : List Oper) : ∀ (n : Nat), drawnR P nt all n = drawn P nt all n
  | 0 => by funext E S T M H K; rfl
  | n + 1 => by
    have ih := drawnR_eq P nt all n
    funext E S T M H K
    show drawStep P nt all (drawnR P nt all n) E S T M H K = _
    rw [ih]
    unfold drawStep
    simp only [checksR_eq]
    rfl

theorem SS.drawR {P : Program} {nt N0 : Nat} {id : Nat} {ops : Array Oper} {T : Tm} {M : List Nat} {H : List PO} {Q : QT} (hf : P.follows .mixedOrders = true) (hs : ssa ops.toList = true)
    (h : drawnR P nt ops.toList 400 [] [] T M H fun T' M' H' => Q .normal T' M' H') : SS P nt N0 (.region id ops true) T M H Q :=
  SS.draw hf hs (by rw [drawnR_eq] at h; exact h)

/-! ### Calls over parts of the heap, their side conditions by themselves -/

section
variable {P : Program} {H : List PO} {f : FuncId} {args : List AV} {K : AV → List Nat → List PO → Prop}

/-- A call that is handed nothing of the heap. -/
theorem Does.alone (m : Nat) (h : Does P f args [] fun x M Hl' => mapM (gmap [] m) M fun Mg => killHK Mg H fun H0 => setAllK (gmap [] m) H0 [] Hl' fun H' => renAK (gmap [] m) x fun y => K y Mg H')
    (hm : H.length = m := by rfl) (hla : lowAs 0 args = true := by rfl) (ha : args = args.map (renA (gmap [] m)) := by rfl) : Does P f args H K :=
  Does.frame m [] [] args h hm (by simp) (by simp) rfl rfl hla rfl ha

/-- A call that is handed the objects ids. -/
theorem Does.on (m : Nat) (ids : List Nat) (Hl : List PO) (argsl : List AV) (h : Does P f argsl Hl fun x M Hl' => mapM (gmap ids m) M fun Mg => killHK Mg H fun H0 => setAllK (gmap ids m) H0 ids Hl' fun H' => renAK (gmap ids m) x fun y => K y Mg H')
    (hm : H.length = m := by rfl) (hn : ids.Nodup := by decide) (hlt : ∀ i ∈ ids, i < m := by decide) (hl : Hl.length = ids.length := by rfl) (hlo : lowH ids.length Hl = true := by rfl) (hla : lowAs ids.length argsl = true := by rfl)
    (hH : (ids.map fun i => H[i]?) = Hl.map fun o => some (renO (gmap ids m) o) := by rfl) (ha : args = argsl.map (renA (gmap ids m)) := by rfl) : Does P f args H K :=
  Does.frame m ids Hl argsl h hm hn hlt hl hlo hla hH ha
end

/-! ### Numbers as they stand in words -/

theorem wrap_i64 (n : Int) (h0 : -9223372036854775808 ≤ n) (h1 : n ≤ 9223372036854775807) : IntKind.i64.wrap n = n := by
  simp only [IntKind.wrap, IntKind.bits, IntKind.signed]
  simp
  omega

theorem wrap_u64 (n : Int) (h0 : 0 ≤ n) (h1 : n < 18446744073709551616) : IntKind.u64.wrap n = n := by
  simp only [IntKind.wrap, IntKind.bits, IntKind.signed]
  simp
  omega

theorem wf_i64 {n : Int} (h : (Lit.int .i64 n).wf = true) : -9223372036854775808 ≤ n ∧ n ≤ 9223372036854775807 := by
  simp [Lit.wf, IntKind.min, IntKind.max, IntKind.signed, IntKind.bits] at h
  omega

theorem wf_u64 {n : Int} (h : (Lit.int .u64 n).wf = true) : 0 ≤ n ∧ n < 18446744073709551616 := by
  simp [Lit.wf, IntKind.min, IntKind.max, IntKind.signed, IntKind.bits] at h
  omega


/-! ### What is handed on, in other words -/

theorem eqb {K : Bool → Prop} {a b : Bool} (h : K a) (e : a = b) : K b := e ▸ h
theorem eqz {K : Int → Prop} {a b : Int} (h : K a) (e : a = b) : K b := e ▸ h
theorem eqx {α : Type} {K : α → Prop} {a b : α} (h : K a) (e : a = b) : K b := e ▸ h

/-- A slice that is nil is one of no elements, of an object of its own. -/
theorem SS.nil {P : Program} {nt N0 : Nat} {c : Code} {T : Tm} {M : List Nat} {H : List PO} {Q : QT} (d sz : Nat) (hsz : 0 < sz) (hd : lk T d = cv .nilslc)
    (h : SS P nt N0 c ((d, cv (.slc H.length 0 0 none false)) :: T) M (H ++ [.rows false sz []]) Q) : SS P nt N0 c T M H Q := by
  refine ⟨fun B R w0 L0 L w a R0 h1 h2 h3 h4 h5 => ?_⟩
  obtain ⟨g1, g2⟩ := none_sound h3 sz hsz
  refine h.run B R w0 L0 _ w a R0 (by simp; omega) ?_ g2 ⟨fun i => ?_, h4.defers, h4.room⟩ h5
  · intro i hi hm
    rw [upd_ne (by omega)]
    exact h2 i hi hm
  · rw [lk_cons]
    split
    · rename_i e
      subst e
      have := h4.get d
      rw [hd] at this
      have hv : a.tmps.getD d undef = .slice none 0 0 := this
      exact ⟨by simp, .inl ⟨rfl, rfl, hv, fun c' hc' => by cases hc'⟩⟩
    · have := (h4.get i).mono (M := []) (N' := (H ++ [PO.rows false sz []]).length) (by simp) g1
      rwa [killA_nil] at this

/-- A call that is handed a nil slice: as one that is handed no elements of an object of its own. -/
theorem Does.nilArg {P : Program} {f : FuncId} {args : List AV} {H : List PO} {K : AV → List Nat → List PO → Prop} (sz : Nat) (hsz : 0 < sz) (h : Does P f (cv (.slc H.length 0 0 none false) :: args) (H ++ [.rows false sz []]) K) :
    Does P f (cv .nilslc :: args) H K := by
  refine ⟨h.fn, fun B R w0 L w vs hrel hvs => ?_⟩
  obtain ⟨v, us, rfl, hv, hus⟩ := hvs
  obtain ⟨g1, g2⟩ := none_sound hrel sz hsz
  obtain rfl : v = .slice none 0 0 := hv
  refine (h.run B R w0 _ w (.slice none 0 0 :: us) g2 ⟨_, _, rfl, ⟨by simp, .inl ⟨rfl, rfl, rfl, fun c' hc' => by cases hc'⟩⟩, ?_⟩).mono ?_
  · clear h
    induction args generalizing us with
    | nil => exact hus
    | cons x xs ih =>
      obtain ⟨y, ys, h1, h2, h3⟩ := hus
      refine ⟨y, ys, h1, ?_, ih _ h3⟩
      have := h2.mono (M := []) (N' := (H ++ [PO.rows false sz []]).length) (by simp) g1
      rwa [killA_nil] at this
  · rintro e w' ⟨u, he, L', x, M, H', k1, k2, k3, k4, k5⟩
    refine ⟨u, he, L', x, M, H', fun i hi hm => ?_, ?_, k3, k4, k5⟩
    · rw [k1 i (by simp; omega) hm, upd_ne (by omega)]
    · simp at k2; omega

/-- Less is said of a box's cells. -/
theorem Rel.weaken {B R : Nat → Prop} {w0 : World} {L : Nat → Loc} {H : List PO} {w : World} (h : Rel B R w0 L H w) {i : Nat} {cs cs' : List CV} (hi : H[i]? = some (.one cs)) (hl : cs'.length = cs.length)
    (hv : ∀ (f : Nat) (x' : CV), cs'[f]? = some x' → ∃ x, cs[f]? = some x ∧ ∀ v, VC H.length L x v → VC H.length L x' v) : Rel B R w0 L (H.set i (.one cs')) w := by
  have hlt := (List.getElem?_eq_some_iff.1 hi).1
  have hback : ∀ (j : Nat) (o : PO), (H.set i (.one cs'))[j]? = some o → ∃ o0, H[j]? = some o0 ∧ (∀ b, Own o (L j) b → Own o0 (L j) b) ∧ (∀ b, Ro o (L j) b → Ro o0 (L j) b) ∧ (j ≠ i → o = o0) := fun j o hj => by
    by_cases hji : j = i
    · subst hji
      rw [List.getElem?_set_self hlt] at hj
      obtain rfl := Option.some.inj hj
      exact ⟨_, hi, fun b hb => hb, fun b hb => hb, fun hh => absurd rfl hh⟩
    · rw [List.getElem?_set_ne (Ne.symm hji)] at hj
      exact ⟨o, hj, fun _ hb => hb, fun _ hb => hb, fun _ => rfl⟩
  refine ⟨h.below, h.start, fun j o hj => ?_, fun j o b hj hb => ?_, fun j o b hj hb => ?_, h.sub⟩
  · rw [List.length_set]
    by_cases hji : j = i
    · subst hji
      rw [List.getElem?_set_self hlt] at hj
      obtain rfl := Option.some.inj hj
      obtain ⟨h1, h2, h3, h4, h5⟩ := h.obj j _ hi
      refine ⟨h1, by rw [hl]; exact h2, by rw [hl]; exact h3, by rw [hl]; exact h4, fun f x' hx' => ?_⟩
      obtain ⟨x, hx, hvx⟩ := hv f x' hx'
      obtain ⟨v, hv1, hv2⟩ := h5 f x hx
      exact ⟨v, hv1, hvx v hv2⟩
    · obtain ⟨o0, h0, _, _, he⟩ := hback j o hj
      rw [he hji]
      exact h.obj j o0 h0
  · obtain ⟨o0, h0, ho, _, _⟩ := hback j o hj
    obtain ⟨k1, k2, k3⟩ := h.own j o0 b h0 (ho b hb)
    refine ⟨k1, k2, fun k o' hk hb' => ?_⟩
    obtain ⟨o1, h1, ho1, _, _⟩ := hback k o' hk
    exact k3 k o1 h1 (ho1 b hb')
  · obtain ⟨o0, h0, _, hro, _⟩ := hback j o hj
    exact h.ro j o0 b h0 (hro b hb)

/-- A nil slice in a box is one of no elements, of an object of its own. -/
theorem SS.nilH {P : Program} {nt N0 : Nat} {c : Code} {T : Tm} {M : List Nat} {H : List PO} {Q : QT} (i f sz : Nat) (hsz : 0 < sz) {cs : List CV} (hi : H[i]? = some (.one cs)) (hf : cs[f]? = some .nilslc)
    (h : SS P nt N0 c T M ((H ++ [PO.rows false sz []]).set i (PO.one (cs.set f (CV.slc H.length 0 0 none false)))) Q) : SS P nt N0 c T M H Q := by
  refine ⟨fun B R w0 L0 L w a R0 h1 h2 h3 h4 h5 => ?_⟩
  obtain ⟨g1, g2⟩ := none_sound h3 sz hsz
  have hlt := (List.getElem?_eq_some_iff.1 hi).1
  have g3 := g2.weaken (i := i) (cs := cs) (cs' := cs.set f (.slc H.length 0 0 none false)) (by rw [List.getElem?_append_left hlt]; exact hi) (by simp) fun g x' hx' => by
    by_cases hg : f = g
    · subst hg
      rw [List.getElem?_set_self (List.getElem?_eq_some_iff.1 hf).1] at hx'
      obtain rfl := Option.some.inj hx'
      exact ⟨_, hf, fun v hv => ⟨by simp, .inl ⟨rfl, rfl, hv, fun c' hc' => by cases hc'⟩⟩⟩
    · rw [List.getElem?_set_ne hg] at hx'
      exact ⟨x', hx', fun _ hv => hv⟩
  refine h.run B R w0 L0 _ w a R0 (by simp; omega) ?_ g3 ⟨fun j => ?_, h4.defers, h4.room⟩ h5
  · intro j hj hm
    rw [upd_ne (by omega)]
    exact h2 j hj hm
  · have := (h4.get j).mono (M := []) (N' := (H ++ [PO.rows false sz []]).length) (by simp) g1
    rw [killA_nil] at this
    simpa using this

theorem SS.nil2 {P : Program} {nt N0 : Nat} {c : Code} {T : Tm} {M : List Nat} {H : List PO} {Q : QT} (d sz : Nat) (hd : lk T d = cv .nilslc)
    (h : SS P nt N0 c ((d, cv (.slc H.length 0 0 none false)) :: T) M (H ++ [.rows2 false sz []]) Q) : SS P nt N0 c T M H Q := by
  refine ⟨fun B R w0 L0 L w a R0 h1 h2 h3 h4 h5 => ?_⟩
  obtain ⟨g1, g2⟩ := none2_sound h3 sz
  refine h.run B R w0 L0 _ w a R0 (by simp; omega) ?_ g2 ⟨fun i => ?_, h4.defers, h4.room⟩ h5
  · intro i hi hm
    rw [upd_ne (by omega)]
    exact h2 i hi hm
  · rw [lk_cons]
    split
    · rename_i e
      subst e
      have := h4.get d
      rw [hd] at this
      have hv : a.tmps.getD d undef = .slice none 0 0 := this
      exact ⟨by simp, .inl ⟨rfl, rfl, hv, fun c' hc' => by cases hc'⟩⟩
    · have := (h4.get i).mono (M := []) (N' := (H ++ [PO.rows2 false sz []]).length) (by simp) g1
      rwa [killA_nil] at this

theorem SS.nilH2 {P : Program} {nt N0 : Nat} {c : Code} {T : Tm} {M : List Nat} {H : List PO} {Q : QT} (i f sz : Nat) {cs : List CV} (hi : H[i]? = some (.one cs)) (hf : cs[f]? = some .nilslc)
    (h : SS P nt N0 c T M ((H ++ [PO.rows2 false sz []]).set i (PO.one (cs.set f (CV.slc H.length 0 0 none false)))) Q) : SS P nt N0 c T M H Q := by
  refine ⟨fun B R w0 L0 L w a R0 h1 h2 h3 h4 h5 => ?_⟩
  obtain ⟨g1, g2⟩ := none2_sound h3 sz
  have hlt := (List.getElem?_eq_some_iff.1 hi).1
  have g3 := g2.weaken (i := i) (cs := cs) (cs' := cs.set f (.slc H.length 0 0 none false)) (by rw [List.getElem?_append_left hlt]; exact hi) (by simp) fun g x' hx' => by
    by_cases hg : f = g
    · subst hg
      rw [List.getElem?_set_self (List.getElem?_eq_some_iff.1 hf).1] at hx'
      obtain rfl := Option.some.inj hx'
      exact ⟨_, hf, fun v hv => ⟨by simp, .inl ⟨rfl, rfl, hv, fun c' hc' => by cases hc'⟩⟩⟩
    · rw [List.getElem?_set_ne hg] at hx'
      exact ⟨x', hx', fun _ hv => hv⟩
  refine h.run B R w0 L0 _ w a R0 (by simp; omega) ?_ g3 ⟨fun j => ?_, h4.defers, h4.room⟩ h5
  · intro j hj hm
    rw [upd_ne (by omega)]
    exact h2 j hj hm
  · have := (h4.get j).mono (M := []) (N' := (H ++ [PO.rows2 false sz []]).length) (by simp) g1
    rw [killA_nil] at this
    simpa using this

theorem Does.nilH {P : Program} {f : FuncId} {args : List AV} {H : List PO} {K : AV → List Nat → List PO → Prop} (i g sz : Nat) (hsz : 0 < sz) {cs : List CV} (hi : H[i]? = some (.one cs)) (hg : cs[g]? = some .nilslc)
    (h : Does P f args ((H ++ [PO.rows false sz []]).set i (PO.one (cs.set g (CV.slc H.length 0 0 none false)))) K) : Does P f args H K := by
  refine ⟨h.fn, fun B R w0 L w vs hrel hvs => ?_⟩
  obtain ⟨g1, g2⟩ := none_sound hrel sz hsz
  have hlt := (List.getElem?_eq_some_iff.1 hi).1
  have g3 := g2.weaken (i := i) (cs := cs) (cs' := cs.set g (.slc H.length 0 0 none false)) (by rw [List.getElem?_append_left hlt]; exact hi) (by simp) fun j x' hx' => by
    by_cases hj : g = j
    · subst hj
      rw [List.getElem?_set_self (List.getElem?_eq_some_iff.1 hg).1] at hx'
      obtain rfl := Option.some.inj hx'
      exact ⟨_, hg, fun v hv => ⟨by simp, .inl ⟨rfl, rfl, hv, fun c' hc' => by cases hc'⟩⟩⟩
    · rw [List.getElem?_set_ne hj] at hx'
      exact ⟨x', hx', fun _ hv => hv⟩
  refine (h.run B R w0 _ w vs g3 ?_).mono ?_
  · rw [List.length_set]
    clear h
    induction args generalizing vs with
    | nil => exact hvs
    | cons x xs ih =>
      obtain ⟨y, ys, h1, h2, h3⟩ := hvs
      refine ⟨y, ys, h1, ?_, ih _ h3⟩
      have := h2.mono (M := []) (N' := (H ++ [PO.rows false sz []]).length) (by simp) g1
      rwa [killA_nil] at this
  · rintro e w' ⟨u, he, L', x, M, H', k1, k2, k3, k4, k5⟩
    rw [List.length_set] at k1 k2
    refine ⟨u, he, L', x, M, H', fun i hi hm => ?_, ?_, k3, k4, k5⟩
    · rw [k1 i (by simp; omega) hm, upd_ne (by omega)]
    · simp at k2; omega

/-- A nil slice in a box that a call leaves: as one of no elements of an object of its own. -/
theorem Does.nilOut {P : Program} {f : FuncId} {args : List AV} {H : List PO} {K : AV → List Nat → List PO → Prop} (i g sz : Nat) (hsz : 0 < sz)
    (h : Does P f args H fun x M H' => ∃ cs, H'[i]? = some (PO.one cs) ∧ cs[g]? = some CV.nilslc ∧ K x M ((H' ++ [PO.rows false sz []]).set i (PO.one (cs.set g (CV.slc H'.length 0 0 none false))))) : Does P f args H K := by
  refine ⟨h.fn, fun B R w0 L w vs hrel hvs => (h.run B R w0 L w vs hrel hvs).mono ?_⟩
  rintro e w' ⟨u, he, L', x, M, H', k1, k2, k3, k4, cs, hi, hg, hk⟩
  obtain ⟨g1, g2⟩ := none_sound k4 sz hsz
  have hlt := (List.getElem?_eq_some_iff.1 hi).1
  have g3 := g2.weaken (i := i) (cs := cs) (cs' := cs.set g (.slc H'.length 0 0 none false)) (by rw [List.getElem?_append_left hlt]; exact hi) (by simp) fun j x' hx' => by
    by_cases hj : g = j
    · subst hj
      rw [List.getElem?_set_self (List.getElem?_eq_some_iff.1 hg).1] at hx'
      obtain rfl := Option.some.inj hx'
      exact ⟨_, hg, fun v hv => ⟨by simp, .inl ⟨rfl, rfl, hv, fun c' hc' => by cases hc'⟩⟩⟩
    · rw [List.getElem?_set_ne hj] at hx'
      exact ⟨x', hx', fun _ hv => hv⟩
  refine ⟨u, he, _, x, M, _, fun j hj hm => ?_, by simp; omega, ?_, g3, hk⟩
  · rw [upd_ne (by omega), k1 j hj hm]
  · have := k3.mono (M := []) (N' := (H' ++ [PO.rows false sz []]).length) (by simp) g1
    rw [killA_nil] at this
    simpa using this

/-- More may be said to have moved. -/
theorem Does.moved {P : Program} {f : FuncId} {args : List AV} {H : List PO} {K : AV → List Nat → List PO → Prop} (M0 : List Nat) (h : Does P f args H fun x M H' => (∀ i ∈ M, i ∈ M0) ∧ K x M0 H') : Does P f args H K :=
  ⟨h.fn, fun B R w0 L w vs hrel hvs => (h.run B R w0 L w vs hrel hvs).mono fun _ _ ⟨v, he, L', x, M, H', h1, h2, h3, h4, h5, h6⟩ =>
    ⟨v, he, L', x, M0, H', h1.sup fun i hi _ => h5 i hi, h2, h3, h4, h6⟩⟩

/-- What nobody asks for any more may be left out: all objects from the n-th on. -/
theorem Does.cut {P : Program} {f : FuncId} {args : List AV} {H : List PO} {K : AV → List Nat → List PO → Prop} (n : Nat) (h : Does P f args H fun x M H' => H.length ≤ n ∧ n ≤ H'.length ∧ lowH n (H'.take n) = true ∧ lowA n x = true ∧ K x M (H'.take n)) : Does P f args H K :=
  ⟨h.fn, fun B R w0 L w vs hrel hvs => (h.run B R w0 L w vs hrel hvs).mono fun _ _ ⟨v, he, L', x, M, H', h1, _, h3, h4, n1, n2, hl, ha, hk⟩ =>
    have e : (H'.take n).length = n := by rw [List.length_take]; omega
    ⟨v, he, L', x, M, H'.take n, h1, by rw [e]; exact n1, by rw [e]; exact VA.low ha h3, h4.take hl n2, hk⟩⟩

/-- Some of the objects, under new numbers. -/
theorem Rel.keep {B R : Nat → Prop} {w0 : World} {L : Nat → Loc} {H : List PO} {w : World} (h : Rel B R w0 L H w) (ids : List Nat) (hnd : ids.Nodup) (hlt : ∀ i ∈ ids, i < H.length) (Hl : List PO) (hl : Hl.length = ids.length) (hlo : lowH ids.length Hl = true)
    (hH : ∀ (k j : Nat) (o : PO), ids[k]? = some j → Hl[k]? = some o → H[j]? = some (renO (gmap ids H.length) o)) : Rel B R w0 (fun i => L (gmap ids H.length i)) Hl w := by
  have hgl : ∀ i, i < ids.length → ∃ j, ids[i]? = some j ∧ gmap ids H.length i = j ∧ j < H.length := fun i hi => by
    have h1 : ids[i]? = some ids[i] := by simp [hi]
    exact ⟨_, h1, gmap_some h1, hlt _ (List.getElem_mem hi)⟩
  have key : ∀ (i : Nat) (o : PO), Hl[i]? = some o → ∃ j, ids[i]? = some j ∧ gmap ids H.length i = j ∧ H[j]? = some (renO (gmap ids H.length) o) := fun i o ho => by
    obtain ⟨j, h1, h2, _⟩ := hgl i (by rw [← hl]; exact (List.getElem?_eq_some_iff.1 ho).1)
    exact ⟨j, h1, h2, hH i j o h1 ho⟩
  refine ⟨h.below, h.start, fun i o ho => ?_, fun i o b ho hb => ?_, fun i o b ho hb => ?_, h.sub⟩
  · obtain ⟨j, hj, hgj, hoj⟩ := key i o ho
    rw [hl]
    simp only [hgj]
    exact OR.unren (fun k hk => by obtain ⟨_, _, e, hh⟩ := hgl k hk; omega) (lowH_spec hlo o (List.mem_of_getElem? ho)) (h.obj j _ hoj)
  · obtain ⟨j, hj, hgj, hoj⟩ := key i o ho
    simp only [hgj] at hb
    obtain ⟨h1, h2, h3⟩ := h.own j _ b hoj (Own_ren.2 hb)
    refine ⟨h1, h2, fun i' o' ho' hb' => ?_⟩
    obtain ⟨j', hj', hgj', hoj'⟩ := key i' o' ho'
    simp only [hgj'] at hb'
    have := h3 j' _ hoj' (Own_ren.2 hb')
    subst this
    exact nodup_inj hnd hj' hj
  · obtain ⟨j, hj, hgj, hoj⟩ := key i o ho
    simp only [hgj] at hb
    exact h.ro j _ b hoj (Ro_ren.2 hb)

/-- Of what a call leaves just so much is told, under new numbers: what was handed in first. -/
theorem Does.keep {P : Program} {f : FuncId} {args : List AV} {H : List PO} {K : AV → List Nat → List PO → Prop} (N : Nat) (hN : H.length = N)
    (h : Does P f args H fun x M H' => ∃ (m : Nat) (ids : List Nat) (Hl : List PO) (xl : AV), H'.length = m ∧ ids.take N = List.range N ∧ ids.Nodup ∧ (∀ i ∈ ids, i < m) ∧ Hl.length = ids.length ∧ lowH ids.length Hl = true ∧ lowA ids.length xl = true ∧
      (ids.map fun i => H'[i]?) = (Hl.map fun o => some (renO (gmap ids m) o)) ∧ x = renA (gmap ids m) xl ∧ K xl M Hl) : Does P f args H K := by
  refine ⟨h.fn, fun B R w0 L w vs hrel hvs => (h.run B R w0 L w vs hrel hvs).mono ?_⟩
  rintro e w' ⟨v, he, L', x, M, H', h1, _, h3, h4, m, ids, Hl, xl, hm, hr, hnd, hlt, hl, hlo, hla, hH, rfl, hk⟩
  subst hm
  have hlen : N ≤ ids.length := by
    have := congrArg List.length hr
    simp at this
    omega
  refine ⟨v, he, fun i => L' (gmap ids H'.length i), xl, M, Hl, fun i hi hm => ?_, by omega, ?_, h4.keep ids hnd hlt Hl hl hlo fun k j o hk ho => ?_, hk⟩
  · rw [← h1 i hi hm]
    have : ids[i]? = some i := by
      have h5 := congrArg (·[i]?) hr
      simp only [List.getElem?_take_of_lt (show i < N by omega), List.getElem?_range (show i < N by omega)] at h5
      exact h5
    show L' (gmap ids H'.length i) = _
    rw [gmap_some this]
  · rw [hl]
    refine VA.unren (fun i hi => ?_) hla h3
    rw [gmap_some (j := ids[i]) (by simp [hi])]
    exact hlt _ (List.getElem_mem hi)
  · have := congrArg (·[k]?) hH
    simp only [List.getElem?_map, hk, ho, Option.map_some, Option.some.injEq] at this
    exact this

/-- A slice that may be nil is nil, or it isn't. -/
theorem Does.nil0 {P : Program} {f : FuncId} {args : List AV} {H : List PO} {K : AV → List Nat → List PO → Prop} {r o n : Nat} {c : Option Nat} (h0 : n = 0 → Does P f (cv .nilslc :: args) H K) (h1 : Does P f (cv (.slc r o n c true) :: args) H K) :
    Does P f (cv (.slc r o n c false) :: args) H K := by
  refine ⟨h1.fn, fun B R w0 L w vs hrel hvs => ?_⟩
  obtain ⟨v, us, rfl, ⟨hr, hv⟩, hus⟩ := hvs
  rcases hv with ⟨_, hn, rfl, _⟩ | hv
  · exact (h0 hn).run B R w0 L w _ hrel ⟨_, _, rfl, rfl, hus⟩
  · exact h1.run B R w0 L w _ hrel ⟨_, _, rfl, ⟨hr, .inr hv⟩, hus⟩

/-! ### What is looked at in rows -/

theorem at2 {a b r : Prop} (h1 : a) (h2 : b) (h3 : r) : a ∧ b ∧ r := ⟨h1, h2, h3⟩

theorem rd1 {rs : List (List FC)} {i f : Nat} {K : FC → Prop} (row : List FC) (x : FC) (h1 : rs[i]? = some row) (h2 : row[f]? = some x) (h : K x) : ∃ row x, rs[i]? = some row ∧ row[f]? = some x ∧ K x := ⟨row, x, h1, h2, h⟩

theorem wr1 {rs : List (List FC)} {i : Nat} {K : List FC → Prop} (row : List FC) (h1 : rs[i]? = some row) (h : K row) : ∃ row, rs[i]? = some row ∧ K row := ⟨row, h1, h⟩

theorem rdA {rs : List (List FC)} {i : Nat} {K : List FC → Prop} (row : List FC) (h1 : rs[i]? = some row) (h : K row) : ∃ row, rs[i]? = some row ∧ K row := ⟨row, h1, h⟩

end Go.Mac
