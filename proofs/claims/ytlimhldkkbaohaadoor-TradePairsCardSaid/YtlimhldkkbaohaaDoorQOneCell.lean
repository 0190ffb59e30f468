/- Machines of threads on one cell, whose programs are made of bodies one behind the other: what a step does. -/
import Derived.Test.YtlimhldkkbaohaaDoorQSys
open Go Go.Proofs Go.Mac
set_option maxRecDepth 100000
namespace Go.Mac

/-- Bodies, one behind the other, from a place on. -/
def catU : Nat → List (List InsZ) → List InsZ
  | _, [] => []
  | p, b :: bs => b.map (relI p) ++ catU (p + b.length) bs

/-- Where the j-th body begins. -/
def offB (bs : List (List InsZ)) (j : Nat) : Nat := ((bs.take j).map List.length).sum

def catP (bs : List (List InsZ)) : List InsZ := catU 0 bs ++ [⟨0, 0, 0, 0, 0⟩]

theorem offB_cons (b : List InsZ) (bs : List (List InsZ)) (j : Nat) : offB (b :: bs) (j + 1) = b.length + offB bs j := by
  simp [offB]

theorem offB_succ {bs : List (List InsZ)} {j : Nat} {b : List InsZ} (h : bs[j]? = some b) : offB bs (j + 1) = offB bs j + b.length := by
  rw [offB, offB, List.take_add_one, h]
  simp

theorem catU_len : ∀ (p : Nat) (bs : List (List InsZ)), (catU p bs).length = offB bs bs.length
  | _, [] => rfl
  | p, b :: bs => by
    rw [catU, List.length_append, List.length_map, catU_len, List.length_cons, offB_cons]

theorem catU_get : ∀ (bs : List (List InsZ)) (p j o : Nat) (b : List InsZ) (i : InsZ), bs[j]? = some b → b[o]? = some i → (catU p bs)[offB bs j + o]? = some (relI ((p + offB bs j : Nat) : Int) i)
  | [], _, _, _, _, _, h, _ => by simp at h
  | c :: bs, p, 0, o, b, i, h, hi => by
    simp at h; subst h
    have ho := (List.getElem?_eq_some_iff.1 hi).1
    show (c.map (relI p) ++ catU (p + c.length) bs)[0 + o]? = some (relI ((p + 0 : Nat) : Int) i)
    rw [Nat.zero_add, List.getElem?_append_left (by simpa using ho), List.getElem?_map, hi]
    rfl
  | c :: bs, p, j + 1, o, b, i, h, hi => by
    rw [offB_cons, catU, List.getElem?_append_right (by simp; omega), List.length_map, show c.length + offB bs j + o - c.length = offB bs j + o by omega,
      catU_get bs (p + c.length) j o b i (by simpa using h) hi, Nat.add_assoc]

theorem catP_get {bs : List (List InsZ)} {j o : Nat} {b : List InsZ} {i : InsZ} (h : bs[j]? = some b) (hi : b[o]? = some i) : (catP bs)[offB bs j + o]? = some (relI ((offB bs j : Nat) : Int) i) := by
  have := catU_get bs 0 j o b i h hi
  rw [Nat.zero_add] at this
  rw [catP, List.getElem?_append_left (List.getElem?_eq_some_iff.1 this).1]
  exact this

theorem catP_halt (bs : List (List InsZ)) : (catP bs)[offB bs bs.length]? = some ⟨0, 0, 0, 0, 0⟩ := by
  rw [catP, List.getElem?_append_right (by rw [catU_len]; omega), catU_len, Nat.sub_self]
  rfl

/-- What an instruction does but for its thread and its cell. -/
inductive Eff where
  | no
  | act (o x y : Int)
  | sleep
  | wake (n : Int)
  | say (a x : Int)

def effS (t : Nat) (ss : List Slp) : Eff → List Slp
  | .sleep => ss ++ [⟨t, 0⟩]
  | .wake n => (wakeL 0 n 0 ss).2
  | _ => ss

def effA (k t : Nat) (al : List ActZ) : Eff → List ActZ
  | .act o x y => al ++ [⟨k, t, o, 0, x, y⟩]
  | _ => al

def effE (k t : Nat) (el : List EvZ) : Eff → List EvZ
  | .say a x => el ++ [⟨k, a, t, x⟩]
  | _ => el

/-- What an instruction does to a thread at its own place, and to the cell. -/
def nextZ (i : InsZ) (x : ThZ) (v : Int) : ThZ × Int × Eff :=
  match localZ { x with pc := x.pc + 1 } i with
  | some x' => (x', v, .no)
  | none =>
    if i.op = 6 then (⟨x.pc + 1, rgS x.rg i.a v, x.dn⟩, v, .act 6 v v)
    else if i.op = 8 then (⟨x.pc + 1, rgS x.rg i.a v, x.dn⟩, u64m (v + u64m i.c), .act 8 v (u64m (v + u64m i.c)))
    else if i.op = 9 then
      if v = rgZ x.rg i.c then (⟨x.pc + 1, rgS x.rg i.a 1, x.dn⟩, rgZ x.rg i.d, .act 9 v (rgZ x.rg i.d)) else (⟨x.pc + 1, rgS x.rg i.a 0, x.dn⟩, v, .act 9 v v)
    else if i.op = 14 then (⟨x.pc + 1, x.rg, x.dn⟩, v, if v = rgZ x.rg i.b then .sleep else .no)
    else if i.op = 16 then (⟨x.pc + 1, x.rg, x.dn⟩, v, .say i.a (IntKind.i64.wrap (rgZ x.rg i.b)))
    else if i.op = 15 then (⟨x.pc + 1, x.rg, x.dn⟩, v, .wake i.b)
    else (⟨x.pc + 1, x.rg, x.dn⟩, rgZ x.rg i.b, .act i.op v (rgZ x.rg i.b))

/-- An instruction on the one cell. -/
def oneC (i : InsZ) : Bool :=
  decide (i.op = 0 ∨ i.op = 1 ∨ i.op = 2 ∨ i.op = 3 ∨ i.op = 4 ∨ i.op = 5 ∨ (i.op = 10 ∧ 0 ≤ i.a) ∨ ((i.op = 11 ∨ i.op = 12 ∨ i.op = 13) ∧ 0 ≤ i.c) ∨ ((i.op = 6 ∨ i.op = 8 ∨ i.op = 9) ∧ i.b = 0) ∨ (i.op = 14 ∧ i.a = 0) ∨ i.op = 16 ∨ ((i.op = 7 ∨ i.op = 15) ∧ i.a = 0 ∧ i.c = -1))

def shT (p : Nat) (x : ThZ) : ThZ := { x with pc := p + x.pc }

theorem set2' {ts : List ThZ} {t : Nat} {a b : ThZ} : (ts.set t a).set t b = ts.set t b := List.set_set ..

theorem rel_local (p : Nat) (x : ThZ) (i : InsZ) (hi : oneC i = true) : localZ (shT p x) (relI p i) = (localZ x i).map (shT p) := by
  have hi := of_decide_eq_true hi
  obtain ⟨op, a, b, c, d⟩ := i
  dsimp only at hi
  rcases hi with rfl | rfl | rfl | rfl | rfl | rfl | ⟨rfl, h⟩ | ⟨rfl | rfl | rfl, h⟩ | ⟨rfl | rfl | rfl, h⟩ | ⟨rfl, h⟩ | rfl | ⟨rfl | rfl, h⟩ <;> try rfl
  · show some { x with pc := ((p : Int) + a).toNat } = some { x with pc := p + a.toNat }
    rw [show ((p : Int) + a).toNat = p + a.toNat by omega]
  · show some (if _ then { x with pc := ((p : Int) + c).toNat } else { x with pc := p + x.pc }) = some (shT p (if _ then _ else _))
    rw [show ((p : Int) + c).toNat = p + c.toNat by omega]
    show some (if rgZ x.rg a = u64m b then { x with pc := p + c.toNat } else { x with pc := p + x.pc }) = some (shT p (if rgZ x.rg a = u64m b then _ else _))
    split <;> rfl
  · show some (if _ then { x with pc := ((p : Int) + c).toNat } else { x with pc := p + x.pc }) = some (shT p (if _ then _ else _))
    rw [show ((p : Int) + c).toNat = p + c.toNat by omega]
    show some (if rgZ x.rg a < rgZ x.rg b then { x with pc := p + c.toNat } else { x with pc := p + x.pc }) = some (shT p (if rgZ x.rg a < rgZ x.rg b then _ else _))
    split <;> rfl
  · show some (if _ then { x with pc := ((p : Int) + c).toNat } else { x with pc := p + x.pc }) = some (shT p (if _ then _ else _))
    rw [show ((p : Int) + c).toNat = p + c.toNat by omega]
    show some (if rgZ x.rg a = rgZ x.rg b then { x with pc := p + c.toNat } else { x with pc := p + x.pc }) = some (shT p (if rgZ x.rg a = rgZ x.rg b then _ else _))
    split <;> rfl

/-- What a thread that can go on does, on one cell. -/
theorem one_go {m : MZ} {t p : Nat} {x : ThZ} {pr : List InsZ} {i : InsZ} {v : Int} (hw : WF m) (hws : m.ws = [v]) (hc : canZ m t = true) (hk : m.k < 20000) (hx : m.ts[t]? = some (shT p x)) (hp : m.ps[t]? = some pr) (hpi : pr[p + x.pc]? = some (relI p i)) (hi : oneC i = true) :
    (stepZ m t).2 = ⟨m.ps, m.ts.set t (shT p (nextZ i x v).1), [(nextZ i x v).2.1], effS t m.ss (nextZ i x v).2.2, effA (m.k + 1) t m.al (nextZ i x v).2.2, effE (m.k + 1) t m.el (nextZ i x v).2.2, m.k + 1, m.nc⟩ := by
  have hnc := hw.nc
  obtain ⟨ps, ts, ws, ss, al, el, k, nc⟩ := m
  dsimp only at hws hnc
  subst hws
  obtain rfl : 1 = nc := hnc
  refine (can_go hc hk hx hp hpi).trans ?_
  have hl := rel_local p { x with pc := x.pc + 1 } i hi
  have hi := of_decide_eq_true hi
  rw [doZ]
  have e : ({ shT p x with pc := (shT p x).pc + 1 } : ThZ) = shT p { x with pc := x.pc + 1 } := rfl
  rw [e, hl, nextZ]
  cases hloc : localZ { x with pc := x.pc + 1 } i with
  | some x' => exact congrArg (fun l => MZ.mk ps l [v] ss al el (k + 1) 1) set2'
  | none =>
    obtain ⟨op, a, b, c, d⟩ := i
    dsimp only at hi
    rcases hi with rfl | rfl | rfl | rfl | rfl | rfl | ⟨rfl, h⟩ | ⟨rfl | rfl | rfl, h⟩ | ⟨rfl | rfl | rfl, h⟩ | ⟨rfl, h⟩ | rfl | ⟨rfl | rfl, h⟩ <;> try (cases hloc; done)
    · subst h; exact congrArg (fun l => MZ.mk ps l [v] ss (al ++ [⟨(k + 1 : Nat), t, 6, 0, v, v⟩]) el (k + 1) 1) set2'
    · subst h; exact congrArg (fun l => MZ.mk ps l [u64m (v + u64m c)] ss (al ++ [⟨(k + 1 : Nat), t, 8, 0, v, u64m (v + u64m c)⟩]) el (k + 1) 1) set2'
    · subst h
      by_cases hv : v = rgZ x.rg c
      · have e2 : nextZ ⟨9, a, 0, c, d⟩ x v = (⟨x.pc + 1, rgS x.rg a 1, x.dn⟩, rgZ x.rg d, .act 9 v (rgZ x.rg d)) := by
          show (if v = rgZ x.rg c then _ else _) = _
          rw [if_pos hv]
        rw [nextZ, hloc] at e2
        dsimp only at e2 ⊢
        rw [e2]
        show (match (if v = rgZ x.rg c then some _ else some _ : Option MZ) with | some m' => ((0 : Int), m') | none => _).2 = _
        rw [if_pos hv]
        exact congrArg (fun l => MZ.mk ps l [rgZ x.rg d] ss (al ++ [⟨(k + 1 : Nat), t, 9, 0, v, rgZ x.rg d⟩]) el (k + 1) 1) set2'
      · have e2 : nextZ ⟨9, a, 0, c, d⟩ x v = (⟨x.pc + 1, rgS x.rg a 0, x.dn⟩, v, .act 9 v v) := by
          show (if v = rgZ x.rg c then _ else _) = _
          rw [if_neg hv]
        rw [nextZ, hloc] at e2
        dsimp only at e2 ⊢
        rw [e2]
        show (match (if v = rgZ x.rg c then some _ else some _ : Option MZ) with | some m' => ((0 : Int), m') | none => _).2 = _
        rw [if_neg hv]
        exact congrArg (fun l => MZ.mk ps l [v] ss (al ++ [⟨(k + 1 : Nat), t, 9, 0, v, v⟩]) el (k + 1) 1) set2'
    · subst h
      show (match (some (if v = rgZ x.rg b then MZ.mk ps (ts.set t (shT p { x with pc := x.pc + 1 })) [v] (ss ++ [(⟨(t : Int), 0⟩ : Slp)]) al el (k + 1) 1 else MZ.mk ps (ts.set t (shT p { x with pc := x.pc + 1 })) [v] ss al el (k + 1) 1) : Option MZ) with | some m' => ((0 : Int), m') | none => (13, MZ.th (MZ.th (MZ.mk ps ts [v] ss al el (k + 1) 1) t (shT p { x with pc := x.pc + 1 })) t { shT p { x with pc := x.pc + 1 } with dn := true })).2 = MZ.mk _ _ _ (effS t ss (if v = rgZ x.rg b then .sleep else .no)) (effA (k + 1) t al (if v = rgZ x.rg b then .sleep else .no)) (effE (k + 1) t el (if v = rgZ x.rg b then .sleep else .no)) _ _
      by_cases hv : v = rgZ x.rg b
      · rw [if_pos hv, if_pos hv]; rfl
      · rw [if_neg hv, if_neg hv]; rfl
    · rfl
    · obtain ⟨rfl, rfl⟩ := h; rfl
    · obtain ⟨rfl, rfl⟩ := h; rfl

/-- Where a thread is: in which body, and there. -/
structure GZ where
  j : Nat
  y : ThZ

def conc (bs : List (List InsZ)) (g : GZ) : ThZ := shT (offB bs g.j) g.y

def insG (bs : List (List InsZ)) (g : GZ) : Option InsZ :=
  match bs[g.j]? with
  | some b => b[g.y.pc]?
  | none => if g.j = bs.length ∧ g.y.pc = 0 then some ⟨0, 0, 0, 0, 0⟩ else none

def normG (bs : List (List InsZ)) (g : GZ) : GZ :=
  match bs[g.j]? with
  | some b => if g.y.pc = b.length then ⟨g.j + 1, { g.y with pc := 0 }⟩ else g
  | none => g

theorem conc_norm (bs : List (List InsZ)) (g : GZ) : conc bs (normG bs g) = conc bs g := by
  rw [normG]
  split
  · rename_i b hb
    split
    · rename_i h
      show ThZ.mk (offB bs (g.j + 1) + 0) _ _ = ThZ.mk (offB bs g.j + g.y.pc) _ _
      rw [offB_succ hb, h]; rfl
    · rfl
  · rfl

theorem insG_get {bs : List (List InsZ)} {g : GZ} {i : InsZ} (h : insG bs g = some i) : (catP bs)[offB bs g.j + g.y.pc]? = some (relI ((offB bs g.j : Nat) : Int) i) := by
  rw [insG] at h
  split at h
  · rename_i b hb
    exact catP_get hb h
  · rename_i hb
    split at h
    · rename_i h2
      obtain rfl := Option.some.inj h
      rw [h2.1, h2.2, Nat.add_zero]
      exact catP_halt bs
    · cases h

def updG (gs : Nat → GZ) (t : Nat) (g : GZ) : Nat → GZ := fun s => if s = t then g else gs s

theorem updG_same (gs : Nat → GZ) (t : Nat) (g : GZ) : updG gs t g t = g := by rw [updG, if_pos rfl]
theorem updG_ne (gs : Nat → GZ) {t s : Nat} (g : GZ) (h : s ≠ t) : updG gs t g s = gs s := by rw [updG, if_neg h]

/-- A machine on one cell, and where its threads are. -/
structure Sys (n : Nat) (bs : Nat → List (List InsZ)) (gs : Nat → GZ) (v : Int) (m : MZ) : Prop where
  wf : WF m
  ln : m.ts.length = n
  ps : ∀ t, t < n → m.ps[t]? = some (catP (bs t))
  ws : m.ws = [v]
  ts : ∀ t, t < n → m.ts[t]? = some (conc (bs t) (gs t))

theorem Sys.can {n : Nat} {bs : Nat → List (List InsZ)} {gs : Nat → GZ} {v : Int} {m : MZ} (h : Sys n bs gs v m) {t : Nat} (hc : canZ m t = true) : t < n ∧ (gs t).y.dn = false ∧ noT m.ss t := by
  obtain ⟨x, hx, hd, hno⟩ := can_out hc
  have ht : t < n := by rw [← h.ln]; exact (List.getElem?_eq_some_iff.1 hx).1
  rw [h.ts t ht] at hx
  obtain rfl := Option.some.inj hx
  exact ⟨ht, hd, hno⟩

theorem Sys.go {n : Nat} {bs : Nat → List (List InsZ)} {gs : Nat → GZ} {v : Int} {m : MZ} (h : Sys n bs gs v m) {t : Nat} {i : InsZ} (hc : canZ m t = true) (hk : m.k < 20000) (hi : insG (bs t) (gs t) = some i) (ho : oneC i = true)
    {y' : ThZ} {v' : Int} {e : Eff} (hn : nextZ i (gs t).y v = (y', v', e)) :
    Sys n bs (updG gs t (normG (bs t) ⟨(gs t).j, y'⟩)) v' (stepZ m t).2 ∧ (stepZ m t).2.ss = effS t m.ss e ∧ (stepZ m t).2.al = effA (m.k + 1) t m.al e ∧ (stepZ m t).2.el = effE (m.k + 1) t m.el e ∧ (stepZ m t).2.k = m.k + 1 := by
  obtain ⟨ht, hd, hno⟩ := h.can hc
  have e1 := one_go (p := offB (bs t) (gs t).j) (x := (gs t).y) (pr := catP (bs t)) h.wf h.ws hc hk (h.ts t ht) (h.ps t ht) (insG_get hi) ho
  rw [hn] at e1
  have hw := h.wf.step t
  rw [e1] at hw ⊢
  refine ⟨⟨hw, by rw [← h.ln]; exact List.length_set, h.ps, rfl, fun s hs => ?_⟩, rfl, rfl, rfl, rfl⟩
  by_cases hst : s = t
  · subst hst
    rw [updG_same, conc_norm]
    exact List.getElem?_set_self (by rw [h.ln]; exact hs)
  · rw [updG_ne _ _ hst]
    show (m.ts.set t _)[s]? = _
    rw [List.getElem?_set_ne (fun h => hst h.symm)]
    exact h.ts s hs

theorem Sys.poke {n : Nat} {bs : Nat → List (List InsZ)} {gs : Nat → GZ} {v : Int} {m : MZ} (h : Sys n bs gs v m) (t : Int) : Sys n bs gs v (pokeZ m t) := ⟨h.wf.poke t, h.ln, h.ps, h.ws, h.ts⟩

end Go.Mac
