/- Machines of threads on some cells, whose programs are made of bodies one behind the other: what a step does. -/
import Derived.Test.YtlimhldkkbaohaaDoorQOneCell
open Go Go.Proofs Go.Mac
set_option maxRecDepth 100000
namespace Go.Mac

/-- What an instruction does but for its thread and the cells. -/
inductive EffW where
  | no
  | act (o : Int) (c : Nat) (x y : Int)
  | sleep (c : Nat)
  | wake (c : Nat) (n : Int)
  | say (a x : Int)

def effWS (t : Nat) (ss : List Slp) : EffW → List Slp
  | .sleep c => ss ++ [⟨t, c⟩]
  | .wake c n => (wakeL c n 0 ss).2
  | _ => ss

def effWA (k t : Nat) (al : List ActZ) : EffW → List ActZ
  | .act o c x y => al ++ [⟨k, t, o, c, x, y⟩]
  | _ => al

def effWE (k t : Nat) (el : List EvZ) : EffW → List EvZ
  | .say a x => el ++ [⟨k, a, t, x⟩]
  | _ => el

/-- What an instruction does to a thread at its own place, and to the cells. -/
def nextW (i : InsZ) (x : ThZ) (ws : List Int) : ThZ × List Int × EffW :=
  match localZ { x with pc := x.pc + 1 } i with
  | some x' => (x', ws, .no)
  | none =>
    if i.op = 6 then (⟨x.pc + 1, rgS x.rg i.a (rgZ ws i.b), x.dn⟩, ws, .act 6 i.b.toNat (rgZ ws i.b) (rgZ ws i.b))
    else if i.op = 8 then (⟨x.pc + 1, rgS x.rg i.a (rgZ ws i.b), x.dn⟩, rgS ws i.b (u64m (rgZ ws i.b + u64m i.c)), .act 8 i.b.toNat (rgZ ws i.b) (u64m (rgZ ws i.b + u64m i.c)))
    else if i.op = 9 then
      if rgZ ws i.b = rgZ x.rg i.c then (⟨x.pc + 1, rgS x.rg i.a 1, x.dn⟩, rgS ws i.b (rgZ x.rg i.d), .act 9 i.b.toNat (rgZ ws i.b) (rgZ x.rg i.d)) else (⟨x.pc + 1, rgS x.rg i.a 0, x.dn⟩, ws, .act 9 i.b.toNat (rgZ ws i.b) (rgZ ws i.b))
    else if i.op = 14 then (⟨x.pc + 1, x.rg, x.dn⟩, ws, if rgZ ws i.a = rgZ x.rg i.b then .sleep i.a.toNat else .no)
    else if i.op = 16 then (⟨x.pc + 1, x.rg, x.dn⟩, ws, .say i.a (IntKind.i64.wrap (rgZ x.rg i.b)))
    else if i.op = 15 then (⟨x.pc + 1, x.rg, x.dn⟩, ws, .wake ((offZ x i).getD 0).toNat i.b)
    else (⟨x.pc + 1, x.rg, x.dn⟩, rgS ws ((offZ x i).getD 0) (rgZ x.rg i.b), .act i.op ((offZ x i).getD 0).toNat (rgZ ws ((offZ x i).getD 0)) (rgZ x.rg i.b))

/-- An instruction on cells that there are. -/
def cellsC (nc : Nat) (x : ThZ) (i : InsZ) : Prop :=
  i.op = 0 ∨ i.op = 1 ∨ i.op = 2 ∨ i.op = 3 ∨ i.op = 4 ∨ i.op = 5 ∨ (i.op = 10 ∧ 0 ≤ i.a) ∨ ((i.op = 11 ∨ i.op = 12 ∨ i.op = 13) ∧ 0 ≤ i.c) ∨ ((i.op = 6 ∨ i.op = 8 ∨ i.op = 9) ∧ 0 ≤ i.b) ∨ (i.op = 14 ∧ 0 ≤ i.a) ∨ i.op = 16 ∨ ((i.op = 7 ∨ i.op = 15) ∧ ∃ c : Nat, offZ x i = some (c : Int) ∧ c < nc)

theorem rel_localW (p : Nat) (x : ThZ) (i : InsZ) {nc : Nat} {y : ThZ} (hi : cellsC nc y i) : localZ (shT p x) (relI p i) = (localZ x i).map (shT p) := by
  obtain ⟨op, a, b, c, d⟩ := i
  unfold cellsC at hi
  dsimp only at hi
  rcases hi with rfl | rfl | rfl | rfl | rfl | rfl | ⟨rfl, h⟩ | ⟨rfl | rfl | rfl, h⟩ | ⟨rfl | rfl | rfl, h⟩ | ⟨rfl, h⟩ | rfl | ⟨rfl | rfl, h⟩ <;> try rfl
  · show some { x with pc := ((p : Int) + a).toNat } = some { x with pc := p + a.toNat }
    rw [show ((p : Int) + a).toNat = p + a.toNat by omega]
  · show some (if _ then { x with pc := ((p : Int) + c).toNat } else { x with pc := p + x.pc }) = some (shT p (if _ then _ else _))
    rw [show ((p : Int) + c).toNat = p + c.toNat by omega]
    show some (if rgZ x.rg a = u64m b then { x with pc := p + c.toNat } else { x with pc := p + x.pc }) = some (shT p (if rgZ x.rg a = u64m b then _ else _))
    split <;> rfl
  · show some (if _ then { x with pc := ((p : Int) + c).toNat } else { x with pc := p + x.pc }) = some (shT p (if _ then _ else _))
    rw [show ((p : Int) + c).toNat = p + c.toNat by omega]
    show some (if rgZ x.rg a < rgZ x.rg b then { x with pc := p + c.toNat } else { x with pc := p + x.pc }) = some (shT p (if rgZ x.rg a < rgZ x.rg b then _ else _))
    split <;> rfl
  · show some (if _ then { x with pc := ((p : Int) + c).toNat } else { x with pc := p + x.pc }) = some (shT p (if _ then _ else _))
    rw [show ((p : Int) + c).toNat = p + c.toNat by omega]
    show some (if rgZ x.rg a = rgZ x.rg b then { x with pc := p + c.toNat } else { x with pc := p + x.pc }) = some (shT p (if rgZ x.rg a = rgZ x.rg b then _ else _))
    split <;> rfl

/-- What a thread that can go on does. -/
theorem many_go {m : MZ} {t p : Nat} {x : ThZ} {pr : List InsZ} {i : InsZ} (hc : canZ m t = true) (hk : m.k < 20000) (hx : m.ts[t]? = some (shT p x)) (hp : m.ps[t]? = some pr) (hpi : pr[p + x.pc]? = some (relI p i)) (hi : cellsC m.nc x i) :
    (stepZ m t).2 = ⟨m.ps, m.ts.set t (shT p (nextW i x m.ws).1), (nextW i x m.ws).2.1, effWS t m.ss (nextW i x m.ws).2.2, effWA (m.k + 1) t m.al (nextW i x m.ws).2.2, effWE (m.k + 1) t m.el (nextW i x m.ws).2.2, m.k + 1, m.nc⟩ := by
  refine (can_go hc hk hx hp hpi).trans ?_
  have hl := rel_localW p { x with pc := x.pc + 1 } i hi
  clear hc hk hx hp hpi
  obtain ⟨ps, ts, ws, ss, al, el, k, nc⟩ := m
  rw [doZ]
  have e : ({ shT p x with pc := (shT p x).pc + 1 } : ThZ) = shT p { x with pc := x.pc + 1 } := rfl
  rw [e, hl, nextW]
  cases hloc : localZ { x with pc := x.pc + 1 } i with
  | some x' => exact congrArg (fun l => MZ.mk ps l ws ss al el (k + 1) nc) set2'
  | none =>
    obtain ⟨op, a, b, c, d⟩ := i
    unfold cellsC at hi
    dsimp only at hi
    rcases hi with rfl | rfl | rfl | rfl | rfl | rfl | ⟨rfl, h⟩ | ⟨rfl | rfl | rfl, h⟩ | ⟨rfl | rfl | rfl, h⟩ | ⟨rfl, h⟩ | rfl | ⟨rfl | rfl, c0, h, hc0⟩ <;> try (cases hloc; done)
    · obtain ⟨b, rfl⟩ := Int.eq_ofNat_of_zero_le h
      exact congrArg (fun l => MZ.mk ps l ws ss (al ++ [⟨(k + 1 : Nat), t, 6, b, rgZ ws b, rgZ ws b⟩]) el (k + 1) nc) set2'
    · obtain ⟨b, rfl⟩ := Int.eq_ofNat_of_zero_le h
      exact congrArg (fun l => MZ.mk ps l (rgS ws b (u64m (rgZ ws b + u64m c))) ss (al ++ [⟨(k + 1 : Nat), t, 8, b, rgZ ws b, u64m (rgZ ws b + u64m c)⟩]) el (k + 1) nc) set2'
    · obtain ⟨b, rfl⟩ := Int.eq_ofNat_of_zero_le h
      by_cases hv : rgZ ws (b : Int) = rgZ x.rg c
      · have e2 : nextW ⟨9, a, (b : Int), c, d⟩ x ws = (⟨x.pc + 1, rgS x.rg a 1, x.dn⟩, rgS ws b (rgZ x.rg d), .act 9 b (rgZ ws b) (rgZ x.rg d)) := by
          show (if rgZ ws (b : Int) = rgZ x.rg c then _ else _) = _
          rw [if_pos hv]
          rfl
        rw [nextW, hloc] at e2
        dsimp only at e2 ⊢
        rw [e2]
        show (match (if rgZ ws (b : Int) = rgZ x.rg c then some _ else some _ : Option MZ) with | some m' => ((0 : Int), m') | none => _).2 = _
        rw [if_pos hv]
        exact congrArg (fun l => MZ.mk ps l (rgS ws b (rgZ x.rg d)) ss (al ++ [⟨(k + 1 : Nat), t, 9, b, rgZ ws b, rgZ x.rg d⟩]) el (k + 1) nc) set2'
      · have e2 : nextW ⟨9, a, (b : Int), c, d⟩ x ws = (⟨x.pc + 1, rgS x.rg a 0, x.dn⟩, ws, .act 9 b (rgZ ws b) (rgZ ws b)) := by
          show (if rgZ ws (b : Int) = rgZ x.rg c then _ else _) = _
          rw [if_neg hv]
          rfl
        rw [nextW, hloc] at e2
        dsimp only at e2 ⊢
        rw [e2]
        show (match (if rgZ ws (b : Int) = rgZ x.rg c then some _ else some _ : Option MZ) with | some m' => ((0 : Int), m') | none => _).2 = _
        rw [if_neg hv]
        exact congrArg (fun l => MZ.mk ps l ws ss (al ++ [⟨(k + 1 : Nat), t, 9, b, rgZ ws b, rgZ ws b⟩]) el (k + 1) nc) set2'
    · obtain ⟨a, rfl⟩ := Int.eq_ofNat_of_zero_le h
      by_cases hv : rgZ ws (a : Int) = rgZ x.rg b
      · have e2 : nextW ⟨14, (a : Int), b, c, d⟩ x ws = (⟨x.pc + 1, x.rg, x.dn⟩, ws, .sleep a) := by
          show ((⟨x.pc + 1, x.rg, x.dn⟩ : ThZ), ws, if rgZ ws (a : Int) = rgZ x.rg b then EffW.sleep (Int.toNat (a : Int)) else EffW.no) = _
          rw [if_pos hv]
          rfl
        rw [nextW, hloc] at e2
        dsimp only at e2 ⊢
        rw [e2]
        have e3 : farZ (({ (MZ.mk ps ts ws ss al el k nc) with k := k + 1 } : MZ).th t (shT p { x with pc := x.pc + 1 })) t (shT p { x with pc := x.pc + 1 }) (relI p ⟨14, (a : Int), b, c, d⟩) = some (MZ.mk ps (ts.set t (shT p { x with pc := x.pc + 1 })) ws (ss ++ [(⟨(t : Int), (a : Int)⟩ : Slp)]) al el (k + 1) nc) := by
          show some (if rgZ ws (a : Int) = rgZ x.rg b then _ else _) = _
          rw [if_pos hv]
          rfl
        dsimp only [Option.map_none]
        rw [e3]
        rfl
      · have e2 : nextW ⟨14, (a : Int), b, c, d⟩ x ws = (⟨x.pc + 1, x.rg, x.dn⟩, ws, .no) := by
          show ((⟨x.pc + 1, x.rg, x.dn⟩ : ThZ), ws, if rgZ ws (a : Int) = rgZ x.rg b then EffW.sleep (Int.toNat (a : Int)) else EffW.no) = _
          rw [if_neg hv]
        rw [nextW, hloc] at e2
        dsimp only at e2 ⊢
        rw [e2]
        have e3 : farZ (({ (MZ.mk ps ts ws ss al el k nc) with k := k + 1 } : MZ).th t (shT p { x with pc := x.pc + 1 })) t (shT p { x with pc := x.pc + 1 }) (relI p ⟨14, (a : Int), b, c, d⟩) = some (MZ.mk ps (ts.set t (shT p { x with pc := x.pc + 1 })) ws ss al el (k + 1) nc) := by
          show some (if rgZ ws (a : Int) = rgZ x.rg b then _ else _) = _
          rw [if_neg hv]
          rfl
        dsimp only [Option.map_none]
        rw [e3]
        rfl
    · rfl
    · have ho : offZ (shT p { x with pc := x.pc + 1 }) (relI p ⟨7, a, b, c, d⟩) = some (c0 : Int) := h
      have e2 : farZ (({ (MZ.mk ps ts ws ss al el k nc) with k := k + 1 } : MZ).th t (shT p { x with pc := x.pc + 1 })) t (shT p { x with pc := x.pc + 1 }) (relI p ⟨7, a, b, c, d⟩) = some (MZ.mk ps (ts.set t (shT p { x with pc := x.pc + 1 })) (rgS ws c0 (rgZ x.rg b)) ss (al ++ [⟨(k + 1 : Nat), t, 7, c0, rgZ ws c0, rgZ x.rg b⟩]) el (k + 1) nc) := by
        show (match offZ (shT p { x with pc := x.pc + 1 }) (relI p ⟨7, a, b, c, d⟩) with | none => none | some c => if c < (nc : Int) then _ else none) = _
        rw [ho]
        dsimp only
        rw [if_pos (by omega)]
        rfl
      dsimp only [Option.map_none]
      rw [e2]
      show MZ.mk _ _ _ _ _ _ _ _ = MZ.mk _ _ (rgS ws ((offZ x ⟨7, a, b, c, d⟩).getD 0) (rgZ x.rg b)) _ (al ++ [⟨_, _, _, (((offZ x ⟨7, a, b, c, d⟩).getD 0).toNat : Nat), rgZ ws ((offZ x ⟨7, a, b, c, d⟩).getD 0), _⟩]) _ _ _
      rw [h]
      rfl
    · have ho : offZ (shT p { x with pc := x.pc + 1 }) (relI p ⟨15, a, b, c, d⟩) = some (c0 : Int) := h
      have e2 : farZ (({ (MZ.mk ps ts ws ss al el k nc) with k := k + 1 } : MZ).th t (shT p { x with pc := x.pc + 1 })) t (shT p { x with pc := x.pc + 1 }) (relI p ⟨15, a, b, c, d⟩) = some (MZ.mk ps (ts.set t (shT p { x with pc := x.pc + 1 })) ws (wakeL c0 b 0 ss).2 al el (k + 1) nc) := by
        show (match offZ (shT p { x with pc := x.pc + 1 }) (relI p ⟨15, a, b, c, d⟩) with | none => none | some c => if c < (nc : Int) then _ else none) = _
        rw [ho]
        dsimp only
        rw [if_pos (by omega)]
        rfl
      dsimp only [Option.map_none]
      rw [e2]
      show MZ.mk _ _ _ _ _ _ _ _ = MZ.mk _ _ _ (wakeL (((offZ x ⟨15, a, b, c, d⟩).getD 0).toNat : Nat) b 0 ss).2 _ _ _ _
      rw [h]
      rfl

/-- A machine on some cells, and where its threads are. -/
structure SysW (n nc : Nat) (bs : Nat → List (List InsZ)) (gs : Nat → GZ) (ws : List Int) (m : MZ) : Prop where
  wf : WF m
  ln : m.ts.length = n
  nk : m.nc = nc
  ps : ∀ t, t < n → m.ps[t]? = some (catP (bs t))
  ws : m.ws = ws
  ts : ∀ t, t < n → m.ts[t]? = some (conc (bs t) (gs t))

section
variable {n nc : Nat} {bs : Nat → List (List InsZ)} {gs : Nat → GZ} {ws : List Int} {m : MZ}

theorem SysW.can (h : SysW n nc bs gs ws m) {t : Nat} (hc : canZ m t = true) : t < n ∧ (gs t).y.dn = false ∧ noT m.ss t := by
  obtain ⟨x, hx, hd, hno⟩ := can_out hc
  have ht : t < n := by rw [← h.ln]; exact (List.getElem?_eq_some_iff.1 hx).1
  rw [h.ts t ht] at hx
  obtain rfl := Option.some.inj hx
  exact ⟨ht, hd, hno⟩

theorem SysW.go (h : SysW n nc bs gs ws m) {t : Nat} {i : InsZ} (hc : canZ m t = true) (hk : m.k < 20000) (hi : insG (bs t) (gs t) = some i) (ho : cellsC nc (gs t).y i)
    {y' : ThZ} {ws' : List Int} {e : EffW} (hn : nextW i (gs t).y ws = (y', ws', e)) :
    SysW n nc bs (updG gs t (normG (bs t) ⟨(gs t).j, y'⟩)) ws' (stepZ m t).2 ∧ (stepZ m t).2.ss = effWS t m.ss e ∧ (stepZ m t).2.al = effWA (m.k + 1) t m.al e ∧ (stepZ m t).2.el = effWE (m.k + 1) t m.el e ∧ (stepZ m t).2.k = m.k + 1 := by
  obtain ⟨ht, hd, hno⟩ := h.can hc
  have e1 := many_go (p := offB (bs t) (gs t).j) (x := (gs t).y) (pr := catP (bs t)) hc hk (h.ts t ht) (h.ps t ht) (insG_get hi) (by rw [h.nk]; exact ho)
  rw [h.ws, hn] at e1
  have hw := h.wf.step t
  rw [e1] at hw ⊢
  refine ⟨⟨hw, by rw [← h.ln]; exact List.length_set, h.nk, h.ps, rfl, fun s hs => ?_⟩, rfl, rfl, rfl, rfl⟩
  by_cases hst : s = t
  · subst hst
    rw [updG_same, conc_norm]
    exact List.getElem?_set_self (by rw [h.ln]; exact hs)
  · rw [updG_ne _ _ hst]
    show (m.ts.set t _)[s]? = _
    rw [List.getElem?_set_ne (fun h => hst h.symm)]
    exact h.ts s hs

theorem SysW.poke (h : SysW n nc bs gs ws m) (t : Int) : SysW n nc bs gs ws (pokeZ m t) := ⟨h.wf.poke t, h.ln, h.nk, h.ps, h.ws, h.ts⟩

end

end Go.Mac
