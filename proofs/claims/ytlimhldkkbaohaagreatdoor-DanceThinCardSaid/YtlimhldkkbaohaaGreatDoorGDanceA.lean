/- Texts that belong together; the first of them: Barriers: pieces of programs, where a thread is in them, and what a step does. -/
import Derived.Test.YtlimhldkkbaohaaGreatDoorGSys
import Derived.Test.YtlimhldkkbaohaaGreatDoorGMachN
import Derived.Test.YtlimhldkkbaohaaGreatDoorGJudgeR

/- Barriers: pieces of programs, where a thread is in them, and what a step does. -/
section
open Go Go.Proofs Go.Mac
set_option maxRecDepth 100000
namespace Go.Mac

/-- A piece: wait till a cell is no less than the round; tell it; come to a count (and to the gate behind it, and on at another piece); open a gate. -/
inductive Pc where
  | aw (c : Nat)
  | tl (c n : Nat)
  | up (c s j : Nat)
  | dn (c s : Nat)

def pcLen : Pc → Nat
  | .aw _ => 5
  | .tl _ _ => 2
  | .up _ _ _ => 8
  | .dn _ _ => 4

def awI (p c : Nat) : List InsZ := [⟨6, 1, c, 0, 0⟩, ⟨12, 1, 0, (p : Int) + 3, 0⟩, ⟨10, (p : Int) + 5, 0, 0, 0⟩, ⟨14, c, 1, 0, 0⟩, ⟨10, p, 0, 0, 0⟩]
def tlI (c n : Nat) : List InsZ := [⟨7, c, 0, -1, 0⟩, ⟨15, c, n, -1, 0⟩]

/-- A piece's instructions; q: where each piece is. -/
def pcI (q : Nat → Nat) (p : Nat) : Pc → List InsZ
  | .aw c => awI p c
  | .tl c n => tlI c n
  | .up c s j => [⟨8, 1, c, 1, 0⟩, ⟨11, 1, (s : Int) - 1, (p : Int) + 8, 0⟩] ++ awI (p + 2) (c + 1) ++ [⟨10, q j, 0, 0, 0⟩]
  | .dn c s => [⟨1, 2, 0, 0, 0⟩, ⟨7, c, 2, -1, 0⟩] ++ tlI (c + 1) s

theorem pcI_len (q : Nat → Nat) (p : Nat) (x : Pc) : (pcI q p x).length = pcLen x := by cases x <;> rfl

/-- Where the k-th piece is, in the body. -/
def offP (P : List Pc) (k : Nat) : Nat := ((P.take k).map pcLen).sum

def bodyQ (q : Nat → Nat) : Nat → List Pc → List InsZ
  | _, [] => []
  | p, x :: xs => pcI q p x ++ bodyQ q (p + pcLen x) xs

def bodyP (P : List Pc) : List InsZ := bodyQ (fun j => 5 + offP P j) 5 P

def wholeZ (R : Nat) (b : List InsZ) : List InsZ :=
  [⟨1, 0, 1, 0, 0⟩, ⟨1, 7, (R : Int) + 1, 0, 0⟩, ⟨12, 0, 7, 4, 0⟩, ⟨0, 0, 0, 0, 0⟩, ⟨16, 1, 0, 0, 0⟩] ++ (b ++ [⟨16, 2, 0, 0, 0⟩, ⟨3, 0, 0, 1, 0⟩, ⟨10, 2, 0, 0, 0⟩])

def danceP (R : Nat) (P : List Pc) : List InsZ := wholeZ R (bodyP P)

theorem offP_cons (x : Pc) (P : List Pc) (k : Nat) : offP (x :: P) (k + 1) = pcLen x + offP P k := by simp [offP]

theorem offP_succ {P : List Pc} {k : Nat} {x : Pc} (h : P[k]? = some x) : offP P (k + 1) = offP P k + pcLen x := by
  rw [offP, offP, List.take_add_one, h]
  simp

theorem bodyQ_len (q : Nat → Nat) : ∀ (p : Nat) (P : List Pc), (bodyQ q p P).length = offP P P.length
  | _, [] => rfl
  | p, x :: P => by rw [bodyQ, List.length_append, pcI_len, bodyQ_len q _ P, List.length_cons, offP_cons]

theorem bodyQ_get (q : Nat → Nat) : ∀ (P : List Pc) (p k o : Nat) (x : Pc), P[k]? = some x → o < pcLen x → (bodyQ q p P)[offP P k + o]? = (pcI q (p + offP P k) x)[o]?
  | [], _, _, _, _, h, _ => by simp at h
  | y :: P, p, 0, o, x, h, ho => by
    simp at h; subst h
    rw [bodyQ, show offP (y :: P) 0 = 0 from rfl, Nat.zero_add, List.getElem?_append_left (by rw [pcI_len]; exact ho)]
    rfl
  | y :: P, p, k + 1, o, x, h, ho => by
    rw [offP_cons, bodyQ, List.getElem?_append_right (by rw [pcI_len]; omega), pcI_len, show pcLen y + offP P k + o - pcLen y = offP P k + o by omega,
      bodyQ_get q P (p + pcLen y) k o x (by simpa using h) ho, Nat.add_assoc]

theorem danceP_get {R : Nat} {P : List Pc} {k o : Nat} {x : Pc} (h : P[k]? = some x) (ho : o < pcLen x) : (danceP R P)[5 + offP P k + o]? = (pcI (fun j => 5 + offP P j) (5 + offP P k) x)[o]? := by
  have := bodyQ_get (fun j => 5 + offP P j) P 5 k o x h ho
  rw [danceP, wholeZ, List.getElem?_append_right (by simp; omega), List.getElem?_append_left]
  · rw [show 5 + offP P k + o - [(⟨1, 0, 1, 0, 0⟩ : InsZ), ⟨1, 7, (R : Int) + 1, 0, 0⟩, ⟨12, 0, 7, 4, 0⟩, ⟨0, 0, 0, 0, 0⟩, ⟨16, 1, 0, 0, 0⟩].length = offP P k + o by simp; omega]
    exact this
  · rw [show 5 + offP P k + o - [(⟨1, 0, 1, 0, 0⟩ : InsZ), ⟨1, 7, (R : Int) + 1, 0, 0⟩, ⟨12, 0, 7, 4, 0⟩, ⟨0, 0, 0, 0, 0⟩, ⟨16, 1, 0, 0, 0⟩].length = offP P k + o by simp; omega]
    have h2 : ((pcI (fun j => 5 + offP P j) (5 + offP P k) x)[o]?).isSome := by
      rw [List.getElem?_eq_getElem (by rw [pcI_len]; exact ho)]; rfl
    rw [← this] at h2
    obtain ⟨i, hi⟩ := Option.isSome_iff_exists.1 h2
    exact (List.getElem?_eq_some_iff.1 hi).1

theorem danceP_tail {R : Nat} {P : List Pc} {o : Nat} (ho : o < 3) : (danceP R P)[5 + offP P P.length + o]? = [(⟨16, 2, 0, 0, 0⟩ : InsZ), ⟨3, 0, 0, 1, 0⟩, ⟨10, 2, 0, 0, 0⟩][o]? := by
  have hl : (bodyP P).length = offP P P.length := bodyQ_len _ _ _
  rw [danceP, wholeZ, List.getElem?_append_right (by simp; omega), List.getElem?_append_right (by rw [hl]; simp; omega)]
  rw [hl, show 5 + offP P P.length + o - [(⟨1, 0, 1, 0, 0⟩ : InsZ), ⟨1, 7, (R : Int) + 1, 0, 0⟩, ⟨12, 0, 7, 4, 0⟩, ⟨0, 0, 0, 0, 0⟩, ⟨16, 1, 0, 0, 0⟩].length - offP P P.length = o by simp; omega]

theorem danceP_len (R : Nat) (P : List Pc) : (danceP R P).length = 8 + offP P P.length := by
  have hl : (bodyP P).length = offP P P.length := bodyQ_len _ _ _
  rw [danceP, wholeZ, List.length_append, List.length_append, hl]
  simp; omega

/-- Where a thread is. -/
inductive NL where
  | p0
  | p1
  | head
  | halt
  | came
  | pc (k o : Nat)
  | gone
  | plus
  | jump
  | ended

/-- A thread: registers 0, 1 and 7, and where it is. -/
structure AT where
  r : Nat
  x : Nat
  e : Nat
  l : NL

def pcN (P : List Pc) : NL → Nat
  | .p0 => 0
  | .p1 => 1
  | .head => 2
  | .halt => 3
  | .came => 4
  | .pc k o => 5 + offP P k + o
  | .gone => 5 + offP P P.length
  | .plus => 5 + offP P P.length + 1
  | .jump => 5 + offP P P.length + 2
  | .ended => 4

def isEnd : NL → Bool
  | .ended => true
  | _ => false

def concA (P : List Pc) (a : AT) : ThZ := ⟨pcN P a.l, [a.r, a.x, 0, 0, 0, 0, 0, a.e], isEnd a.l⟩

def nxL (P : List Pc) (k : Nat) : NL := if k < P.length then .pc k 0 else .gone

theorem pcN_nx {P : List Pc} {k : Nat} (h : k ≤ P.length) : pcN P (nxL P k) = 5 + offP P k := by
  rw [nxL]
  split
  · rfl
  · rw [show k = P.length by omega]; rfl

theorem nx_end (P : List Pc) (k : Nat) : isEnd (nxL P k) = false := by rw [nxL]; split <;> rfl

/-- What a step does but for its thread. -/
inductive Ef where
  | no
  | act (o : Int) (c x y : Nat)
  | slp (c : Nat)
  | wk (c n : Nat)
  | say (a : Int) (x : Nat)

def efS (t : Nat) (ss : List Slp) : Ef → List Slp
  | .slp c => ss ++ [⟨t, c⟩]
  | .wk c n => (wakeL c n 0 ss).2
  | _ => ss

def efA (k t : Nat) (al : List ActZ) : Ef → List ActZ
  | .act o c x y => al ++ [⟨k, t, o, c, x, y⟩]
  | _ => al

def efE (k t : Nat) (el : List EvZ) : Ef → List EvZ
  | .say a x => el ++ [⟨k, a, t, x⟩]
  | _ => el

def updV (V : Nat → Nat) (c y : Nat) : Nat → Nat := fun d => if d = c then y else V d

def efV (V : Nat → Nat) : Ef → Nat → Nat
  | .act _ c _ y => updV V c y
  | _ => V

/-- Of waiting: what is done at each of the five places; f and b: where it goes on, and back. -/
def awA (V : Nat → Nat) (a : AT) (c : Nat) (o : Nat) (at' : Nat → NL) (out : NL) : AT × Ef :=
  match o with
  | 0 => ({ a with x := V c, l := at' 1 }, .act 6 c (V c) (V c))
  | 1 => ({ a with l := if a.x < a.r then at' 3 else at' 2 }, .no)
  | 2 => ({ a with l := out }, .no)
  | 3 => ({ a with l := at' 4 }, if V c = a.x then .slp c else .no)
  | _ => ({ a with l := at' 0 }, .no)

/-- What a thread does next, at a place of a piece. -/
def stPc (Q : List Pc) (V : Nat → Nat) (a : AT) (k o : Nat) : Pc → AT × Ef
  | .aw c => awA V a c o (fun o => .pc k o) (nxL Q (k + 1))
  | .tl c n =>
    match o with
    | 0 => ({ a with l := .pc k 1 }, .act 7 c (V c) a.r)
    | _ => ({ a with l := nxL Q (k + 1) }, .wk c n)
  | .up c s j =>
    match o with
    | 0 => ({ a with x := V c, l := .pc k 1 }, .act 8 c (V c) (V c + 1))
    | 1 => ({ a with l := if (a.x : Int) = s - 1 then nxL Q (k + 1) else .pc k 2 }, .no)
    | 7 => ({ a with l := nxL Q j }, .no)
    | o + 2 => awA V a (c + 1) o (fun o => .pc k (o + 2)) (.pc k 7)
  | .dn c s =>
    match o with
    | 0 => ({ a with l := .pc k 1 }, .no)
    | 1 => ({ a with l := .pc k 2 }, .act 7 c (V c) 0)
    | 2 => ({ a with l := .pc k 3 }, .act 7 (c + 1) (V (c + 1)) a.r)
    | _ => ({ a with l := nxL Q (k + 1) }, .wk (c + 1) s)

/-- What a thread does next. -/
def stA (R : Nat) (Q : List Pc) (V : Nat → Nat) (a : AT) : AT × Ef :=
  match a.l with
  | .p0 => ({ a with r := 1, l := .p1 }, .no)
  | .p1 => ({ a with e := R + 1, l := .head }, .no)
  | .head => ({ a with l := if a.r < a.e then .came else .halt }, .no)
  | .halt => ({ a with l := .ended }, .no)
  | .came => ({ a with l := nxL Q 0 }, .say 1 a.r)
  | .pc k o =>
    match Q[k]? with
    | some y => stPc Q V a k o y
    | none => (a, .no)
  | .gone => ({ a with l := .plus }, .say 2 a.r)
  | .plus => ({ a with r := a.r + 1, l := .jump }, .no)
  | .jump => ({ a with l := .head }, .no)
  | .ended => (a, .no)

theorem stA_pc {R : Nat} {Q : List Pc} {V : Nat → Nat} {r x e k o : Nat} {y : Pc} (h : Q[k]? = some y) : stA R Q V ⟨r, x, e, .pc k o⟩ = stPc Q V ⟨r, x, e, .pc k o⟩ k o y := by
  rw [stA]; dsimp only; rw [h]

def cellsL (nc : Nat) (V : Nat → Nat) : List Int := (List.range nc).map fun c => (V c : Int)

theorem cellsL_len (nc : Nat) (V : Nat → Nat) : (cellsL nc V).length = nc := by simp [cellsL]

theorem cellsL_get {nc c : Nat} {V : Nat → Nat} (h : c < nc) : rgZ (cellsL nc V) (c : Int) = V c := by
  rw [rgZ, Int.toNat_natCast, cellsL, List.getD_eq_getElem?_getD, List.getElem?_map, List.getElem?_range h]
  rfl

theorem cellsL_set {nc c y : Nat} {V : Nat → Nat} : rgS (cellsL nc V) (c : Int) (y : Int) = cellsL nc (updV V c y) := by
  rw [rgS, Int.toNat_natCast]
  refine List.ext_getElem? fun j => ?_
  by_cases hj : j < nc
  · by_cases e : c = j
    · subst e
      rw [List.getElem?_set_self (by rw [cellsL_len]; exact hj), cellsL, List.getElem?_map, List.getElem?_range hj]
      show _ = some (((if c = c then y else V c : Nat)) : Int)
      rw [if_pos rfl]
    · rw [List.getElem?_set_ne e, cellsL, cellsL, List.getElem?_map, List.getElem?_map, List.getElem?_range hj]
      show some (V j : Int) = some (((if j = c then y else V j : Nat)) : Int)
      rw [if_neg (fun h => e h.symm)]
  · rw [List.getElem?_eq_none (by rw [List.length_set, cellsL_len]; omega), List.getElem?_eq_none (by rw [cellsL_len]; omega)]

theorem cellsL_set0 {nc c : Nat} {V : Nat → Nat} : rgS (cellsL nc V) (c : Int) 0 = cellsL nc (updV V c 0) := cellsL_set (y := 0)

theorem updV_same (V : Nat → Nat) (c : Nat) : updV V c (V c) = V := funext fun d => by
  rw [updV]
  split
  · rename_i h; rw [h]
  · rfl

theorem do_local {m : MZ} {t : Nat} {x x' : ThZ} {i : InsZ} (h : localZ x i = some x') : (doZ m t x i).2 = m.th t x' := by rw [doZ, h]

theorem do_far {m m' : MZ} {t : Nat} {x : ThZ} {i : InsZ} (h : localZ x i = none) (h2 : farZ m t x i = some m') : (doZ m t x i).2 = m' := by
  rw [doZ, h]
  dsimp only
  rw [h2]

def updA (A : Nat → AT) (t : Nat) (a : AT) : Nat → AT := fun s => if s = t then a else A s
theorem updA_same (A : Nat → AT) (t : Nat) (a : AT) : updA A t a t = a := by rw [updA, if_pos rfl]
theorem updA_ne (A : Nat → AT) {t s : Nat} (a : AT) (h : s ≠ t) : updA A t a s = A s := by rw [updA, if_neg h]

/-- Cells of a piece, of so many. -/
def pcFit (nc : Nat) : Pc → Bool
  | .aw c => decide (c < nc)
  | .tl c _ => decide (c < nc)
  | .up c s _ => decide (c + 1 < nc ∧ 1 ≤ s ∧ s ≤ 1000)
  | .dn c _ => decide (c + 1 < nc)

def pcTo (len : Nat) : Pc → Bool
  | .up _ _ j => decide (j ≤ len)
  | _ => true

theorem pl_pos (x : Pc) : 0 < pcLen x := by cases x <;> exact Nat.zero_lt_succ _

/-- A place that there is. -/
def LocOk (P : List Pc) : NL → Prop
  | .pc k o => ∃ x, P[k]? = some x ∧ o < pcLen x
  | _ => True

theorem loc_nx (P : List Pc) (k : Nat) : LocOk P (nxL P k) := by
  rw [nxL]
  split
  · rename_i h
    exact ⟨P[k], List.getElem?_eq_getElem h, pl_pos _⟩
  · trivial

/-- A machine of pieces, and where its threads are. -/
structure Abs (n nc R : Nat) (P : Nat → List Pc) (A : Nat → AT) (V : Nat → Nat) (m : MZ) : Prop where
  wf : WF m
  ln : m.ts.length = n
  nk : m.nc = nc
  ps : ∀ t, t < n → m.ps[t]? = some (danceP R (P t))
  ws : m.ws = cellsL nc V
  ts : ∀ t, t < n → m.ts[t]? = some (concA (P t) (A t))
  lo : ∀ t, t < n → LocOk (P t) (A t).l
  fit : ∀ t, t < n → ∀ x ∈ P t, pcFit nc x = true ∧ pcTo (P t).length x = true
  rb : ∀ t, t < n → (A t).r ≤ m.k + 1
  vb : ∀ c, V c ≤ m.k + 1
  R : R ≤ 1000

theorem setTwo {ts : List ThZ} {t : Nat} {a b : ThZ} : (ts.set t a).set t b = ts.set t b := List.set_set ..

section
variable {n nc R : Nat} {P : Nat → List Pc} {A : Nat → AT} {V : Nat → Nat} {m : MZ} {t : Nat} {x : ThZ} {p : List InsZ}

theorem Abs.can (h : Abs n nc R P A V m) (hc : canZ m t = true) : t < n ∧ isEnd (A t).l = false ∧ noT m.ss t := by
  obtain ⟨x, hx, hd, hno⟩ := can_out hc
  have ht : t < n := by rw [← h.ln]; exact (List.getElem?_eq_some_iff.1 hx).1
  rw [h.ts t ht] at hx
  obtain rfl := Option.some.inj hx
  exact ⟨ht, hd, hno⟩

/-- The machine behind a step. -/
def outM (m : MZ) (t nc : Nat) (V : Nat → Nat) (y : ThZ) (e : Ef) : MZ := ⟨m.ps, m.ts.set t y, cellsL nc (efV V e), efS t m.ss e, efA (m.k + 1) t m.al e, efE (m.k + 1) t m.el e, m.k + 1, m.nc⟩

theorem out_local {y : ThZ} {i : InsZ} (hc : canZ m t = true) (hk : m.k < 20000) (hx : m.ts[t]? = some x) (hp : m.ps[t]? = some p) (hws : m.ws = cellsL nc V) (hi : p[x.pc]? = some i)
    (hl : localZ { x with pc := x.pc + 1 } i = some y) : (stepZ m t).2 = outM m t nc V y .no := by
  rw [can_go hc hk hx hp hi, do_local hl]
  clear hc hx hp hk
  obtain ⟨ps, ts, ws, ss, al, el, k, nc'⟩ := m
  dsimp only at hws
  subst hws
  exact congrArg (fun l => MZ.mk ps l (cellsL nc V) ss al el (k + 1) nc') setTwo

theorem out_load {c : Nat} (hc : canZ m t = true) (hk : m.k < 20000) (hx : m.ts[t]? = some x) (hp : m.ps[t]? = some p) (hws : m.ws = cellsL nc V) (hcl : c < nc) (hi : p[x.pc]? = some ⟨6, 1, c, 0, 0⟩) :
    (stepZ m t).2 = outM m t nc V ⟨x.pc + 1, rgS x.rg 1 (V c), x.dn⟩ (.act 6 c (V c) (V c)) := by
  rw [can_go hc hk hx hp hi, do_far rfl rfl]
  clear hc hx hp hk
  obtain ⟨ps, ts, ws, ss, al, el, k, nc'⟩ := m
  dsimp only at hws
  subst hws
  show MZ.mk ps ((ts.set t _).set t ⟨x.pc + 1, rgS x.rg 1 (rgZ (cellsL nc V) c), x.dn⟩) (cellsL nc V) ss (al ++ [⟨(k + 1 : Nat), t, 6, c, rgZ (cellsL nc V) c, rgZ (cellsL nc V) c⟩]) el (k + 1) nc' = _
  rw [cellsL_get hcl, setTwo]
  show _ = MZ.mk ps _ (cellsL nc (updV V c (V c))) _ _ _ _ _
  rw [updV_same]
  rfl

theorem out_fetch {c : Nat} (hc : canZ m t = true) (hk : m.k < 20000) (hx : m.ts[t]? = some x) (hp : m.ps[t]? = some p) (hws : m.ws = cellsL nc V) (hcl : c < nc) (hv : V c ≤ 100000) (hi : p[x.pc]? = some ⟨8, 1, c, 1, 0⟩) :
    (stepZ m t).2 = outM m t nc V ⟨x.pc + 1, rgS x.rg 1 (V c), x.dn⟩ (.act 8 c (V c) (V c + 1)) := by
  rw [can_go hc hk hx hp hi, do_far rfl rfl]
  clear hc hx hp hk
  obtain ⟨ps, ts, ws, ss, al, el, k, nc'⟩ := m
  dsimp only at hws
  subst hws
  show MZ.mk ps ((ts.set t _).set t ⟨x.pc + 1, rgS x.rg 1 (rgZ (cellsL nc V) c), x.dn⟩) (rgS (cellsL nc V) c (u64m (rgZ (cellsL nc V) c + u64m 1))) ss (al ++ [⟨(k + 1 : Nat), t, 8, c, rgZ (cellsL nc V) c, u64m (rgZ (cellsL nc V) c + u64m 1)⟩]) el (k + 1) nc' = _
  have e : u64m ((V c : Int) + u64m 1) = ((V c + 1 : Nat) : Int) := by
    rw [show u64m 1 = 1 from rfl, u64m, wrap_u64 _ (by omega) (by omega)]
    omega
  rw [cellsL_get hcl, setTwo, e, cellsL_set]
  rfl

theorem out_wait {c v : Nat} (hc : canZ m t = true) (hk : m.k < 20000) (hx : m.ts[t]? = some x) (hp : m.ps[t]? = some p) (hws : m.ws = cellsL nc V) (hcl : c < nc) (hv : rgZ x.rg 1 = v) (hi : p[x.pc]? = some ⟨14, c, 1, 0, 0⟩) :
    (stepZ m t).2 = outM m t nc V ⟨x.pc + 1, x.rg, x.dn⟩ (if V c = v then .slp c else .no) := by
  rw [can_go hc hk hx hp hi, do_far rfl rfl]
  clear hc hx hp hk
  obtain ⟨ps, ts, ws, ss, al, el, k, nc'⟩ := m
  dsimp only at hws
  subst hws
  show (if rgZ (cellsL nc V) c = rgZ x.rg 1 then MZ.mk ps (ts.set t _) (cellsL nc V) (ss ++ [⟨t, c⟩]) al el (k + 1) nc' else MZ.mk ps (ts.set t _) (cellsL nc V) ss al el (k + 1) nc') = _
  rw [cellsL_get hcl, hv]
  by_cases h : V c = v
  · rw [if_pos (by omega), if_pos h]; rfl
  · rw [if_neg (by omega), if_neg h]; rfl

theorem out_say {a : Int} {v : Nat} (hc : canZ m t = true) (hk : m.k < 20000) (hx : m.ts[t]? = some x) (hp : m.ps[t]? = some p) (hws : m.ws = cellsL nc V) (hv : rgZ x.rg 0 = v) (hb : v ≤ 100000) (hi : p[x.pc]? = some ⟨16, a, 0, 0, 0⟩) :
    (stepZ m t).2 = outM m t nc V ⟨x.pc + 1, x.rg, x.dn⟩ (.say a v) := by
  rw [can_go hc hk hx hp hi, do_far rfl rfl]
  clear hc hx hp hk
  obtain ⟨ps, ts, ws, ss, al, el, k, nc'⟩ := m
  dsimp only at hws
  subst hws
  show MZ.mk ps (ts.set t _) (cellsL nc V) ss al (el ++ [⟨(k + 1 : Nat), a, t, IntKind.i64.wrap (rgZ x.rg 0)⟩]) (k + 1) nc' = _
  rw [hv, wrap_i64 _ (by omega) (by omega)]
  rfl

theorem wk_far {m : MZ} {t : Nat} {x : ThZ} {c s : Nat} (h : c < m.nc) : farZ m t x ⟨15, c, s, -1, 0⟩ = some { m with ss := (wakeL c s 0 m.ss).2 } := by
  show (match (some (c : Int) : Option Int) with | none => none | some c => if c < m.nc then (if (15 : Int) = 15 then some { m with ss := (wakeL c s 0 m.ss).2 } else _) else none) = _
  dsimp only
  rw [if_pos (by omega), if_pos rfl]

theorem st_far {m : MZ} {t : Nat} {x : ThZ} {c : Nat} {b : Int} (h : c < m.nc) : farZ m t x ⟨7, c, b, -1, 0⟩ = some ({ m with ws := rgS m.ws c (rgZ x.rg b) }.act t 7 c (rgZ m.ws c) (rgZ x.rg b)) := by
  show (match (some (c : Int) : Option Int) with | none => none | some c => if c < m.nc then (if (7 : Int) = 15 then _ else some ({ m with ws := rgS m.ws c (rgZ x.rg b) }.act t 7 c (rgZ m.ws c) (rgZ x.rg b))) else none) = _
  dsimp only
  rw [if_pos (by omega), if_neg (by decide)]

theorem out_wake {c s : Nat} (hc : canZ m t = true) (hk : m.k < 20000) (hx : m.ts[t]? = some x) (hp : m.ps[t]? = some p) (hws : m.ws = cellsL nc V) (hnc : m.nc = nc) (hcl : c < nc) (hi : p[x.pc]? = some ⟨15, c, s, -1, 0⟩) :
    (stepZ m t).2 = outM m t nc V ⟨x.pc + 1, x.rg, x.dn⟩ (.wk c s) := by
  rw [can_go hc hk hx hp hi, do_far rfl (wk_far (by show c < m.nc; omega))]
  clear hc hx hp hk
  obtain ⟨ps, ts, ws, ss, al, el, k, nc'⟩ := m
  dsimp only at hws
  subst hws
  rfl

theorem out_store {c v : Nat} {b : Int} (hc : canZ m t = true) (hk : m.k < 20000) (hx : m.ts[t]? = some x) (hp : m.ps[t]? = some p) (hws : m.ws = cellsL nc V) (hnc : m.nc = nc) (hcl : c < nc) (hv : rgZ x.rg b = v) (hi : p[x.pc]? = some ⟨7, c, b, -1, 0⟩) :
    (stepZ m t).2 = outM m t nc V ⟨x.pc + 1, x.rg, x.dn⟩ (.act 7 c (V c) v) := by
  rw [can_go hc hk hx hp hi, do_far rfl (st_far (by show c < m.nc; omega))]
  clear hc hx hp hk
  obtain ⟨ps, ts, ws, ss, al, el, k, nc'⟩ := m
  dsimp only at hws
  subst hws
  show MZ.mk ps (ts.set t _) (rgS (cellsL nc V) c (rgZ x.rg b)) ss (al ++ [⟨(k + 1 : Nat), t, 7, c, rgZ (cellsL nc V) c, rgZ x.rg b⟩]) el (k + 1) nc' = _
  rw [cellsL_get hcl, hv, cellsL_set]
  rfl

/-- Waiting, at each of its five places. -/
theorem out_aw {Q : List Pc} {a : AT} {c o pl : Nat} {f : Nat → NL} {out : NL} (hc : canZ m t = true) (hk : m.k < 20000) (hp : m.ps[t]? = some p) (hws : m.ws = cellsL nc V) (hcl : c < nc) (ho : o < 5)
    (hx : m.ts[t]? = some ⟨pl + o, [a.r, a.x, 0, 0, 0, 0, 0, a.e], false⟩) (hi : p[pl + o]? = (awI pl c)[o]?) (hf : ∀ o, pcN Q (f o) = pl + o ∧ isEnd (f o) = false) (hout : pcN Q out = pl + 5 ∧ isEnd out = false) :
    (stepZ m t).2 = outM m t nc V (concA Q (awA V a c o f out).1) (awA V a c o f out).2 := by
  obtain ⟨r, xx, e, l⟩ := a
  rcases o with _ | _ | _ | _ | _ | o
  · refine (out_load hc hk hx hp hws hcl hi).trans ?_
    show outM m t nc V ⟨pl + 1, [(r : Int), V c, 0, 0, 0, 0, 0, e], false⟩ _ = outM m t nc V ⟨pcN Q (f 1), [(r : Int), V c, 0, 0, 0, 0, 0, e], isEnd (f 1)⟩ _
    rw [(hf 1).1, (hf 1).2]
    rfl
  · by_cases h : xx < r
    · refine (out_local hc hk hx hp hws hi (y := concA Q ⟨r, xx, e, f 3⟩) ?_).trans ?_
      · show some (if (xx : Int) < r then ThZ.mk ((pl : Int) + 3).toNat _ _ else _) = some (ThZ.mk (pcN Q (f 3)) _ (isEnd (f 3)))
        rw [if_pos (by omega), (hf 3).1, (hf 3).2, show ((pl : Int) + 3).toNat = pl + 3 by omega]
      · show _ = outM m t nc V (concA Q ⟨r, xx, e, if xx < r then f 3 else f 2⟩) .no
        rw [if_pos h]
    · refine (out_local hc hk hx hp hws hi (y := concA Q ⟨r, xx, e, f 2⟩) ?_).trans ?_
      · show some (if (xx : Int) < r then _ else ThZ.mk (pl + 2) _ _) = some (ThZ.mk (pcN Q (f 2)) _ (isEnd (f 2)))
        rw [if_neg (by omega), (hf 2).1, (hf 2).2]
      · show _ = outM m t nc V (concA Q ⟨r, xx, e, if xx < r then f 3 else f 2⟩) .no
        rw [if_neg h]
  · refine out_local hc hk hx hp hws hi (y := concA Q ⟨r, xx, e, out⟩) ?_
    show some (ThZ.mk ((pl : Int) + 5).toNat _ _) = some (ThZ.mk (pcN Q out) _ (isEnd out))
    rw [hout.1, hout.2, show ((pl : Int) + 5).toNat = pl + 5 by omega]
  · refine (out_wait hc hk hx hp hws hcl (v := xx) rfl hi).trans ?_
    show outM m t nc V ⟨pl + 4, [(r : Int), xx, 0, 0, 0, 0, 0, e], false⟩ _ = outM m t nc V ⟨pcN Q (f 4), [(r : Int), xx, 0, 0, 0, 0, 0, e], isEnd (f 4)⟩ _
    rw [(hf 4).1, (hf 4).2]
    rfl
  · refine out_local hc hk hx hp hws hi (y := concA Q ⟨r, xx, e, f 0⟩) ?_
    show some (ThZ.mk (pl : Int).toNat _ _) = some (ThZ.mk (pcN Q (f 0)) _ (isEnd (f 0)))
    rw [(hf 0).1, (hf 0).2, show ((pl : Int)).toNat = pl + 0 by omega]
  · omega

theorem out_go {R : Nat} {Q : List Pc} {a : AT} (hc : canZ m t = true) (hk : m.k < 20000) (hx : m.ts[t]? = some (concA Q a)) (hp : m.ps[t]? = some (danceP R Q)) (hws : m.ws = cellsL nc V) (hnc : m.nc = nc)
    (hR : R ≤ 1000) (hr : a.r ≤ 100000) (hv : ∀ c, V c ≤ 100000) (hlo : LocOk Q a.l) (hfit : ∀ x ∈ Q, pcFit nc x = true ∧ pcTo Q.length x = true) (hne : isEnd a.l = false) :
    (stepZ m t).2 = outM m t nc V (concA Q (stA R Q V a).1) (stA R Q V a).2 := by
  obtain ⟨r, xx, e, l⟩ := a
  cases l with
  | p0 => exact out_local hc hk hx hp hws (i := ⟨1, 0, 1, 0, 0⟩) rfl rfl
  | p1 =>
    refine out_local hc hk hx hp hws (i := ⟨1, 7, (R : Int) + 1, 0, 0⟩) rfl (y := concA Q ⟨r, xx, R + 1, .head⟩) ?_
    show some (ThZ.mk 2 [(r : Int), xx, 0, 0, 0, 0, 0, u64m ((R : Int) + 1)] false) = some (ThZ.mk 2 [(r : Int), xx, 0, 0, 0, 0, 0, ((R + 1 : Nat) : Int)] false)
    rw [u64m, wrap_u64 _ (by omega) (by omega)]
    rfl
  | head =>
    by_cases h : r < e
    · refine (out_local hc hk hx hp hws (i := ⟨12, 0, 7, 4, 0⟩) rfl (y := concA Q ⟨r, xx, e, .came⟩) ?_).trans ?_
      · show some (if (r : Int) < e then ThZ.mk 4 _ _ else _) = some (ThZ.mk 4 _ _)
        rw [if_pos (by omega)]
        rfl
      · show _ = outM m t nc V (concA Q ⟨r, xx, e, if r < e then .came else .halt⟩) .no
        rw [if_pos h]
    · refine (out_local hc hk hx hp hws (i := ⟨12, 0, 7, 4, 0⟩) rfl (y := concA Q ⟨r, xx, e, .halt⟩) ?_).trans ?_
      · show some (if (r : Int) < e then _ else ThZ.mk 3 _ _) = some (ThZ.mk 3 _ _)
        rw [if_neg (by omega)]
        rfl
      · show _ = outM m t nc V (concA Q ⟨r, xx, e, if r < e then .came else .halt⟩) .no
        rw [if_neg h]
  | halt => exact out_local hc hk hx hp hws (i := ⟨0, 0, 0, 0, 0⟩) rfl rfl
  | came =>
    refine (out_say hc hk hx hp hws (a := 1) (v := r) rfl hr rfl).trans ?_
    show outM m t nc V ⟨5, [(r : Int), xx, 0, 0, 0, 0, 0, e], false⟩ _ = outM m t nc V ⟨pcN Q (nxL Q 0), _, isEnd (nxL Q 0)⟩ _
    rw [pcN_nx (Nat.zero_le _), nx_end]
    rfl
  | gone => exact out_say hc hk hx hp hws (a := 2) (v := r) rfl hr (danceP_tail (o := 0) (by decide))
  | plus =>
    refine out_local hc hk hx hp hws (danceP_tail (o := 1) (by decide)) (y := concA Q ⟨r + 1, xx, e, .jump⟩) ?_
    show some (ThZ.mk _ [u64m ((r : Int) + u64m 1), (xx : Int), 0, 0, 0, 0, 0, (e : Int)] false) = some (ThZ.mk _ [((r + 1 : Nat) : Int), (xx : Int), 0, 0, 0, 0, 0, (e : Int)] false)
    have hr' : r ≤ 100000 := hr
    rw [show u64m 1 = 1 from rfl, u64m, wrap_u64 _ (by omega) (by omega)]
    rfl
  | jump => exact out_local hc hk hx hp hws (danceP_tail (o := 2) (by decide)) rfl
  | ended => cases hne
  | pc k o =>
    obtain ⟨y, hy, ho⟩ := hlo
    have hg := danceP_get (R := R) hy ho
    have hm := List.mem_of_getElem? hy
    obtain ⟨hf1, hf2⟩ := hfit y hm
    have hkl := (List.getElem?_eq_some_iff.1 hy).1
    have hnx : pcN Q (nxL Q (k + 1)) = 5 + offP Q k + pcLen y := by rw [pcN_nx hkl, offP_succ hy]; omega
    rw [stA_pc hy]
    cases y with
    | aw c =>
      have hcl : c < nc := of_decide_eq_true hf1
      exact out_aw (Q := Q) (pl := 5 + offP Q k) hc hk hp hws hcl ho hx hg (fun o => ⟨rfl, rfl⟩) ⟨hnx, nx_end _ _⟩
    | tl c n =>
      have hcl : c < nc := of_decide_eq_true hf1
      rcases o with _ | _ | o
      · exact out_store hc hk hx hp hws hnc hcl (v := r) (b := 0) rfl hg
      · refine (out_wake hc hk hx hp hws hnc hcl hg).trans ?_
        show outM m t nc V ⟨5 + offP Q k + 1 + 1, [(r : Int), xx, 0, 0, 0, 0, 0, e], false⟩ _ = outM m t nc V ⟨pcN Q (nxL Q (k + 1)), _, isEnd (nxL Q (k + 1))⟩ _
        rw [hnx, nx_end]
        rfl
      · exact absurd ho (by show ¬ o + 2 < 2; omega)
    | up c s j =>
      obtain ⟨hcl, hs1, hs2⟩ : c + 1 < nc ∧ 1 ≤ s ∧ s ≤ 1000 := of_decide_eq_true hf1
      have hu : u64m ((s : Int) - 1) = s - 1 := by rw [u64m, wrap_u64 _ (by omega) (by omega)]
      have hj : j ≤ Q.length := of_decide_eq_true hf2
      rcases o with _ | _ | o
      · exact out_fetch hc hk hx hp hws (by omega) (hv c) hg
      · by_cases h : (xx : Int) = s - 1
        · refine (out_local hc hk hx hp hws hg (y := concA Q ⟨r, xx, e, nxL Q (k + 1)⟩) ?_).trans ?_
          · show some (if (xx : Int) = u64m ((s : Int) - 1) then ThZ.mk (((5 + offP Q k : Nat) : Int) + 8).toNat _ _ else _) = some (ThZ.mk (pcN Q (nxL Q (k + 1))) _ (isEnd (nxL Q (k + 1))))
            rw [hu, if_pos h, hnx, nx_end, show (((5 + offP Q k : Nat) : Int) + 8).toNat = 5 + offP Q k + 8 by omega]
            rfl
          · show _ = outM m t nc V (concA Q ⟨r, xx, e, if (xx : Int) = s - 1 then nxL Q (k + 1) else .pc k 2⟩) .no
            rw [if_pos h]
        · refine (out_local hc hk hx hp hws hg (y := concA Q ⟨r, xx, e, .pc k 2⟩) ?_).trans ?_
          · show some (if (xx : Int) = u64m ((s : Int) - 1) then _ else ThZ.mk (5 + offP Q k + 1 + 1) _ _) = some (ThZ.mk (5 + offP Q k + 2) _ _)
            rw [hu, if_neg h]
            rfl
          · show _ = outM m t nc V (concA Q ⟨r, xx, e, if (xx : Int) = s - 1 then nxL Q (k + 1) else .pc k 2⟩) .no
            rw [if_neg h]
      · by_cases h7 : o = 5
        · subst h7
          refine out_local hc hk hx hp hws hg (y := concA Q ⟨r, xx, e, nxL Q j⟩) ?_
          show some (ThZ.mk ((5 + offP Q j : Nat) : Int).toNat _ _) = some (ThZ.mk (pcN Q (nxL Q j)) _ (isEnd (nxL Q j)))
          rw [pcN_nx hj, nx_end, Int.toNat_natCast]
          rfl
        · have ho5 : o < 5 := by
            have : o + 2 < 8 := ho
            omega
          have hg2 : (danceP R Q)[5 + offP Q k + 2 + o]? = (awI (5 + offP Q k + 2) (c + 1))[o]? := by
            rw [show 5 + offP Q k + 2 + o = 5 + offP Q k + (o + 2) by omega, hg]
            have : o = 0 ∨ o = 1 ∨ o = 2 ∨ o = 3 ∨ o = 4 := by omega
            rcases this with rfl | rfl | rfl | rfl | rfl <;> rfl
          have hx2 : m.ts[t]? = some ⟨5 + offP Q k + 2 + o, [(r : Int), xx, 0, 0, 0, 0, 0, e], false⟩ := by
            rw [show 5 + offP Q k + 2 + o = 5 + offP Q k + (o + 2) by omega]; exact hx
          have := out_aw (Q := Q) (a := ⟨r, xx, e, .pc k (o + 2)⟩) (f := fun o => .pc k (o + 2)) (out := .pc k 7) (pl := 5 + offP Q k + 2) hc hk hp hws hcl ho5 hx2 hg2 (fun o => ⟨by show 5 + offP Q k + (o + 2) = _; omega, rfl⟩) ⟨rfl, rfl⟩
          have h5 : o = 0 ∨ o = 1 ∨ o = 2 ∨ o = 3 ∨ o = 4 := by omega
          rcases h5 with rfl | rfl | rfl | rfl | rfl <;> exact this
    | dn c s =>
      have hcl : c + 1 < nc := of_decide_eq_true hf1
      rcases o with _ | _ | _ | _ | o
      · exact out_local hc hk hx hp hws hg rfl
      · exact out_store hc hk hx hp hws hnc (by omega) (v := 0) (b := 2) rfl hg
      · exact out_store hc hk hx hp hws hnc hcl (v := r) (b := 0) rfl hg
      · refine (out_wake hc hk hx hp hws hnc hcl hg).trans ?_
        show outM m t nc V ⟨5 + offP Q k + 3 + 1, [(r : Int), xx, 0, 0, 0, 0, 0, e], false⟩ _ = outM m t nc V ⟨pcN Q (nxL Q (k + 1)), _, isEnd (nxL Q (k + 1))⟩ _
        rw [hnx, nx_end]
        rfl
      · exact absurd ho (by show ¬ o + 4 < 4; omega)

theorem stPc_up {Q : List Pc} {V : Nat → Nat} {a : AT} {k o c s j : Nat} (h : o ≠ 5) : stPc Q V a k (o + 2) (.up c s j) = awA V a (c + 1) o (fun o => .pc k (o + 2)) (.pc k 7) := by
  rcases o with _ | _ | _ | _ | _ | _ | o
  all_goals first | rfl | exact absurd rfl h

theorem efV_le {V : Nat → Nat} {b : Nat} (hv : ∀ c, V c ≤ b) {e : Ef} (he : ∀ o c x y, e = .act o c x y → y ≤ b) : ∀ c, efV V e c ≤ b := fun d => by
  cases e with
  | act o c x y =>
    show (if d = c then y else V d) ≤ b
    split
    · exact he o c x y rfl
    · exact hv d
  | _ => exact hv d

theorem aw_le {V : Nat → Nat} {b : Nat} (hv : ∀ c, V c ≤ b) {a : AT} (hr : a.r ≤ b) (c o : Nat) (f : Nat → NL) (out : NL) : (awA V a c o f out).1.r ≤ b ∧ ∀ o' c' x y, (awA V a c o f out).2 = .act o' c' x y → y ≤ b := by
  rcases o with _ | _ | _ | _ | o
  · exact ⟨hr, fun o' c' x y h => by injection h with _ _ _ h; rw [← h]; exact hv c⟩
  · exact ⟨hr, fun o' c' x y h => by cases h⟩
  · exact ⟨hr, fun o' c' x y h => by cases h⟩
  · refine ⟨hr, fun o' c' x y h => ?_⟩
    rw [awA] at h
    dsimp only at h
    split at h <;> cases h
  · exact ⟨hr, fun o' c' x y h => by cases h⟩

theorem st_le {V : Nat → Nat} {b R : Nat} {Q : List Pc} (hv : ∀ c, V c ≤ b) {a : AT} (hr : a.r ≤ b) : (stA R Q V a).1.r ≤ b + 1 ∧ ∀ o c x y, (stA R Q V a).2 = .act o c x y → y ≤ b + 1 := by
  have base : ∀ {s : AT × Ef}, (s.1.r ≤ b ∧ ∀ o c x y, s.2 = .act o c x y → y ≤ b) → s.1.r ≤ b + 1 ∧ ∀ o c x y, s.2 = .act o c x y → y ≤ b + 1 := fun h => ⟨by have := h.1; omega, fun o c x y e => by have := h.2 o c x y e; omega⟩
  obtain ⟨r, xx, e, l⟩ := a
  change r ≤ b at hr
  cases l with
  | p0 => exact ⟨by show 1 ≤ b + 1; omega, fun o c x y h => by cases h⟩
  | p1 => exact ⟨by show r ≤ b + 1; omega, fun o c x y h => by cases h⟩
  | head => exact ⟨by show r ≤ b + 1; omega, fun o c x y h => by cases h⟩
  | halt => exact ⟨by show r ≤ b + 1; omega, fun o c x y h => by cases h⟩
  | came => exact ⟨by show r ≤ b + 1; omega, fun o c x y h => by cases h⟩
  | gone => exact ⟨by show r ≤ b + 1; omega, fun o c x y h => by cases h⟩
  | plus => exact ⟨by show r + 1 ≤ b + 1; omega, fun o c x y h => by cases h⟩
  | jump => exact ⟨by show r ≤ b + 1; omega, fun o c x y h => by cases h⟩
  | ended => exact ⟨by show r ≤ b + 1; omega, fun o c x y h => by cases h⟩
  | pc k o =>
    cases hy : Q[k]? with
    | none =>
      have : stA R Q V ⟨r, xx, e, .pc k o⟩ = (⟨r, xx, e, .pc k o⟩, .no) := by rw [stA]; dsimp only; rw [hy]
      rw [this]
      exact ⟨by show r ≤ b + 1; omega, fun o c x y h => by cases h⟩
    | some y =>
      rw [stA_pc hy]
      cases y with
      | aw c => exact base (aw_le hv hr _ _ _ _)
      | tl c n =>
        rcases o with _ | o
        · exact ⟨by show r ≤ b + 1; omega, fun o c x y h => by injection h with _ _ _ h; change _ = y at h; first | (change r = y at h; omega) | (change 0 = y at h; omega)⟩
        · exact ⟨by show r ≤ b + 1; omega, fun o c x y h => by cases h⟩
      | up c s j =>
        rcases o with _ | _ | o
        · exact ⟨by show r ≤ b + 1; omega, fun o c' x y h => by injection h with _ hc _ h; have := hv c; omega⟩
        · exact ⟨by show r ≤ b + 1; omega, fun o c x y h => by cases h⟩
        · by_cases h5 : o = 5
          · subst h5
            exact ⟨by show r ≤ b + 1; omega, fun o c x y h => by cases h⟩
          · have : stPc Q V ⟨r, xx, e, .pc k (o + 1 + 1)⟩ k (o + 1 + 1) (.up c s j) = awA V ⟨r, xx, e, .pc k (o + 1 + 1)⟩ (c + 1) o (fun o => .pc k (o + 2)) (.pc k 7) := stPc_up h5
            rw [this]
            exact base (aw_le hv hr _ _ _ _)
      | dn c s =>
        rcases o with _ | _ | _ | o
        · exact ⟨by show r ≤ b + 1; omega, fun o c x y h => by cases h⟩
        · exact ⟨by show r ≤ b + 1; omega, fun o c x y h => by injection h with _ _ _ h; change _ = y at h; first | (change r = y at h; omega) | (change 0 = y at h; omega)⟩
        · exact ⟨by show r ≤ b + 1; omega, fun o c x y h => by injection h with _ _ _ h; change _ = y at h; first | (change r = y at h; omega) | (change 0 = y at h; omega)⟩
        · exact ⟨by show r ≤ b + 1; omega, fun o c x y h => by cases h⟩

theorem aw_lo {V : Nat → Nat} {Q : List Pc} {a : AT} {c o : Nat} {f : Nat → NL} {out : NL} (hf : ∀ o, o < 5 → LocOk Q (f o)) (ho : LocOk Q out) : LocOk Q (awA V a c o f out).1.l := by
  rcases o with _ | _ | _ | _ | o
  · exact hf 1 (by decide)
  · show LocOk Q (if a.x < a.r then f 3 else f 2)
    split
    · exact hf 3 (by decide)
    · exact hf 2 (by decide)
  · exact ho
  · exact hf 4 (by decide)
  · exact hf 0 (by decide)

theorem st_lo {V : Nat → Nat} {R : Nat} {Q : List Pc} {a : AT} (h : LocOk Q a.l) : LocOk Q (stA R Q V a).1.l := by
  obtain ⟨r, xx, e, l⟩ := a
  cases l with
  | p0 => trivial
  | p1 => trivial
  | head => show LocOk Q (if r < e then NL.came else NL.halt); split <;> trivial
  | halt => trivial
  | came => exact loc_nx Q 0
  | gone => trivial
  | plus => trivial
  | jump => trivial
  | ended => trivial
  | pc k o =>
    obtain ⟨y, hy, ho⟩ := h
    rw [stA_pc hy]
    cases y with
    | aw c => exact aw_lo (fun o ho => ⟨_, hy, ho⟩) (loc_nx _ _)
    | tl c n =>
      rcases o with _ | o
      · exact ⟨_, hy, by first | (show _ < 2; omega) | (show _ < 8; omega) | (show _ < 4; omega)⟩
      · exact loc_nx _ _
    | up c s j =>
      rcases o with _ | _ | o
      · exact ⟨_, hy, by show 1 < 8; omega⟩
      · show LocOk Q (if (xx : Int) = s - 1 then nxL Q (k + 1) else .pc k 2)
        split
        · exact loc_nx _ _
        · exact ⟨_, hy, by show 2 < 8; omega⟩
      · by_cases h5 : o = 5
        · subst h5
          exact loc_nx _ _
        · have : stPc Q V ⟨r, xx, e, .pc k (o + 1 + 1)⟩ k (o + 1 + 1) (.up c s j) = awA V ⟨r, xx, e, .pc k (o + 1 + 1)⟩ (c + 1) o (fun o => .pc k (o + 2)) (.pc k 7) := stPc_up h5
          rw [this]
          exact aw_lo (fun o ho => ⟨_, hy, by show o + 2 < 8; omega⟩) ⟨_, hy, by show 7 < 8; omega⟩
    | dn c s =>
      rcases o with _ | _ | _ | o
      · exact ⟨_, hy, by first | (show _ < 2; omega) | (show _ < 8; omega) | (show _ < 4; omega)⟩
      · exact ⟨_, hy, by first | (show _ < 2; omega) | (show _ < 8; omega) | (show _ < 4; omega)⟩
      · exact ⟨_, hy, by first | (show _ < 2; omega) | (show _ < 8; omega) | (show _ < 4; omega)⟩
      · exact loc_nx _ _

/-- A STEP, in terms of pieces. -/
theorem Abs.go (h : Abs n nc R P A V m) (hc : canZ m t = true) (hk : m.k < 20000) :
    Abs n nc R P (updA A t (stA R (P t) V (A t)).1) (efV V (stA R (P t) V (A t)).2) (stepZ m t).2 ∧ (stepZ m t).2.ss = efS t m.ss (stA R (P t) V (A t)).2 ∧
      (stepZ m t).2.al = efA (m.k + 1) t m.al (stA R (P t) V (A t)).2 ∧ (stepZ m t).2.el = efE (m.k + 1) t m.el (stA R (P t) V (A t)).2 ∧ (stepZ m t).2.k = m.k + 1 := by
  obtain ⟨ht, hd, hno⟩ := h.can hc
  have hr := h.rb t ht
  have e1 := out_go hc hk (h.ts t ht) (h.ps t ht) h.ws h.nk h.R (by omega) (fun c => by have := h.vb c; omega) (h.lo t ht) (h.fit t ht) hd
  have hw := h.wf.step t
  obtain ⟨b1, b2⟩ := st_le (R := R) (Q := P t) h.vb hr
  have b3 := st_lo (V := V) (R := R) (h.lo t ht)
  generalize stA R (P t) V (A t) = s at e1 b1 b2 b3
  rw [e1] at hw ⊢
  refine ⟨⟨hw, by rw [← h.ln]; exact List.length_set, h.nk, h.ps, rfl, fun u hu => ?_, fun u hu => ?_, h.fit, fun u hu => ?_, ?_, h.R⟩, rfl, rfl, rfl, rfl⟩
  · by_cases hut : u = t
    · subst hut
      rw [updA_same]
      exact List.getElem?_set_self (by rw [h.ln]; exact hu)
    · rw [updA_ne _ _ hut]
      show (m.ts.set t _)[u]? = _
      rw [List.getElem?_set_ne (fun h => hut h.symm)]
      exact h.ts u hu
  · by_cases hut : u = t
    · subst hut
      rw [updA_same]
      exact b3
    · rw [updA_ne _ _ hut]
      exact h.lo u hu
  · show (updA A t s.1 u).r ≤ m.k + 1 + 1
    by_cases hut : u = t
    · subst hut
      rw [updA_same]
      exact b1
    · rw [updA_ne _ _ hut]
      have := h.rb u hu
      omega
  · show ∀ c, efV V s.2 c ≤ m.k + 1 + 1
    exact efV_le (fun c => by have := h.vb c; omega) b2

theorem Abs.poke (h : Abs n nc R P A V m) (t : Int) : Abs n nc R P A V (pokeZ m t) := ⟨h.wf.poke t, h.ln, h.nk, h.ps, h.ws, h.ts, h.lo, h.fit, h.rb, h.vb, h.R⟩

/-- What holds of pieces, sleepers and events holds whoever goes on. -/
theorem abs_inv {I : (Nat → AT) → (Nat → Nat) → List Slp → List ActZ → List EvZ → Nat → Prop}
    (hs : ∀ A V m t, Abs n nc R P A V m → I A V m.ss m.al m.el m.k → t < n → isEnd (A t).l = false → noT m.ss t → m.k < 20000 →
      I (updA A t (stA R (P t) V (A t)).1) (efV V (stA R (P t) V (A t)).2) (efS t m.ss (stA R (P t) V (A t)).2) (efA (m.k + 1) t m.al (stA R (P t) V (A t)).2) (efE (m.k + 1) t m.el (stA R (P t) V (A t)).2) (m.k + 1))
    {m : MZ} {s : Nat} (h : ∃ A V, Abs n nc R P A V m ∧ I A V m.ss m.al m.el m.k) (hc : canZ m s = true) (hk : m.k < 20000) : ∃ A V, Abs n nc R P A V (stepZ m s).2 ∧ I A V (stepZ m s).2.ss (stepZ m s).2.al (stepZ m s).2.el (stepZ m s).2.k := by
  obtain ⟨A, V, h, hi⟩ := h
  obtain ⟨g1, g2, g3, g4, g5⟩ := h.go hc hk
  obtain ⟨ht, hd, hno⟩ := h.can hc
  refine ⟨_, _, g1, ?_⟩
  rw [g2, g3, g4, g5]
  exact hs A V m s h hi ht hd hno hk

/-- At first. -/
theorem abs_begin {ps : List (List InsZ)} (hn : ps.length = n) (hn16 : n ≤ 16) (hnc : nc ≤ 300) (hR : R ≤ 1000) (hps : ∀ t, t < n → ps[t]? = some (danceP R (P t))) (hr : ∀ p ∈ ps, rightZ p nc = true) (hfit : ∀ t, t < n → ∀ x ∈ P t, pcFit nc x = true ∧ pcTo (P t).length x = true) :
    Abs n nc R P (fun _ => ⟨0, 0, 0, .p0⟩) (fun _ => 0) (mz0 ps (List.replicate nc 0)) := by
  have hl : (List.replicate nc (0 : Int)).length = nc := List.length_replicate
  refine ⟨mz0_wf (by omega) (by rw [hl]; exact hnc) (by rw [hl]; exact hr) fun x hx => by rw [(List.mem_replicate.1 hx).2]; omega, ?_, hl, hps, ?_, fun t ht => ?_, fun t ht => trivial, hfit, fun t ht => Nat.zero_le _, fun c => Nat.zero_le _, hR⟩
  · show (List.replicate ps.length th0).length = n
    rw [List.length_replicate, hn]
  · show List.replicate nc (0 : Int) = _
    refine List.ext_getElem (by simp [cellsL]) fun i h1 h2 => ?_
    simp [cellsL]
  · show (List.replicate ps.length th0)[t]? = _
    rw [List.getElem?_replicate, if_pos (by omega)]
    rfl

end

end Go.Mac
end

/- Barriers whose cells each are told by one thread alone: what holds, whoever goes on when. -/
section
open Go Go.Proofs Go.Mac
set_option maxRecDepth 100000
namespace Go.Mac

def tlO : Option Pc → Nat → Nat
  | some (.tl _ _), _ + 1 => 1
  | _, _ => 0

/-- How many pieces are done in this round. -/
def doneL (Q : List Pc) : NL → Nat
  | .pc k o => k + tlO Q[k]? o
  | .gone => Q.length
  | .plus => Q.length
  | _ => 0

/-- In how many rounds a piece was done. -/
def tg (Q : List Pc) (a : AT) (k : Nat) : Nat := if k < doneL Q a.l then a.r else a.r - 1

/-- How often somebody said that it came; and that it went. -/
def cmA (a : AT) : Nat :=
  match a.l with
  | .pc _ _ => a.r
  | .gone => a.r
  | .plus => a.r
  | _ => a.r - 1

def gnA (a : AT) : Nat :=
  match a.l with
  | .plus => a.r
  | _ => a.r - 1

/-- What the registers have. -/
def RegOk (R : Nat) (a : AT) : Prop :=
  match a.l with
  | .p0 => a.r = 0 ∧ a.e = 0
  | .p1 => a.r = 1 ∧ a.e = 0
  | .head => 1 ≤ a.r ∧ a.r ≤ R + 1 ∧ a.e = R + 1
  | .jump => 1 ≤ a.r ∧ a.r ≤ R + 1 ∧ a.e = R + 1
  | .halt => a.r = R + 1 ∧ a.e = R + 1
  | .ended => a.r = R + 1 ∧ a.e = R + 1
  | _ => 1 ≤ a.r ∧ a.r ≤ R ∧ a.e = R + 1

/-- What a thread that waits has seen. -/
def MicOk (a : AT) (o v : Nat) : Prop :=
  match o with
  | 1 => a.x ≤ v ∧ a.r ≤ a.x + 1
  | 2 => a.r ≤ v
  | 3 => a.x < a.r ∧ a.x ≤ v ∧ a.r ≤ a.x + 1
  | _ => True

theorem MicOk.mono {a : AT} {o v v' : Nat} (h : MicOk a o v) (hv : v ≤ v') : MicOk a o v' := by
  rcases o with _ | _ | _ | _ | o
  · trivial
  · exact ⟨Nat.le_trans h.1 hv, h.2⟩
  · exact Nat.le_trans h hv
  · exact ⟨h.1, Nat.le_trans h.2.1 hv, h.2.2⟩
  · trivial

def isAw (c : Nat) : Pc → Bool
  | .aw d => d == c
  | _ => false

/-- Does a thread wait at a cell? -/
def awaits (Q : List Pc) (c : Nat) : Bool := Q.any (isAw c)
/-- How many do. -/
def wtN (n : Nat) (P : Nat → List Pc) (c : Nat) : Nat := rsum n fun u => if awaits (P u) c = true then 1 else 0

/-- Each cell is told by one thread, at one place. -/
structure NetOk (n : Nat) (P : Nat → List Pc) (wr : Nat → Option (Nat × Nat)) : Prop where
  kind : ∀ t, t < n → ∀ x ∈ P t, (∃ c, x = .aw c) ∨ ∃ c s, x = .tl c s ∧ wtN n P c ≤ s
  tl : ∀ t, t < n → ∀ (k c s : Nat), (P t)[k]? = some (.tl c s) → wr c = some (t, k)
  aw : ∀ t, t < n → ∀ (k c : Nat), (P t)[k]? = some (.aw c) → ∃ u p s, wr c = some (u, p) ∧ u < n ∧ (P u)[p]? = some (.tl c s)

structure NI (n R : Nat) (P : Nat → List Pc) (wr : Nat → Option (Nat × Nat)) (A : Nat → AT) (V : Nat → Nat) (ss : List Slp) : Prop where
  reg : ∀ t, t < n → RegOk R (A t)
  cell : ∀ t, t < n → ∀ (k c s : Nat), (P t)[k]? = some (.tl c s) → V c = tg (P t) (A t) k
  none : ∀ c, (∀ t p, wr c = some (t, p) → n ≤ t) → V c = 0
  await : ∀ t, t < n → ∀ (k c : Nat), (P t)[k]? = some (.aw c) → tg (P t) (A t) k ≤ V c
  mic : ∀ t, t < n → ∀ (k o c : Nat), (A t).l = .pc k o → (P t)[k]? = some (.aw c) → MicOk (A t) o (V c)
  slp : ∀ s ∈ ss, ∃ (t k c : Nat), t < n ∧ s = ⟨(t : Int), (c : Int)⟩ ∧ (A t).l = .pc k 4 ∧ (P t)[k]? = some (.aw c) ∧ (V c < (A t).r ∨ ∃ u p, wr c = some (u, p) ∧ (A u).l = .pc p 1)
  nd : (ss.map (·.t)).Nodup

theorem tlO_zero (y : Option Pc) : tlO y 0 = 0 := by
  rcases y with _ | (_ | _ | _ | _) <;> rfl

theorem done_nx (Q : List Pc) {k : Nat} (h : k ≤ Q.length) : doneL Q (nxL Q k) = k := by
  rw [nxL]
  split
  · show k + tlO Q[k]? 0 = k
    rw [tlO_zero]; rfl
  · show Q.length = k
    omega

theorem done_aw {Q : List Pc} {k c : Nat} (o : Nat) (h : Q[k]? = some (.aw c)) : doneL Q (.pc k o) = k := by rw [doneL, h]; rfl
theorem done_tl0 {Q : List Pc} {k c s : Nat} (_h : Q[k]? = some (.tl c s)) : doneL Q (.pc k 0) = k := by rw [doneL, tlO_zero]; rfl
theorem done_tl1 {Q : List Pc} {k c s : Nat} (o : Nat) (h : Q[k]? = some (.tl c s)) : doneL Q (.pc k (o + 1)) = k + 1 := by rw [doneL, h]; rfl

theorem wakeL_filter (c n : Int) : ∀ (l : List Slp) (k : Nat), ((k + l.countP (fun s => s.c == c) : Nat) : Int) ≤ n → (wakeL c n k l).2 = l.filter fun s => s.c != c
  | [], _, _ => rfl
  | x :: xs, k, h => by
    rw [wakeL, List.filter_cons]
    by_cases e : x.c = c
    · rw [List.countP_cons_of_pos (by simpa using e)] at h
      rw [if_pos ⟨e, by omega⟩, if_neg (by simp [e])]
      exact wakeL_filter c n xs (k + 1) (by omega)
    · rw [List.countP_cons_of_neg (by simpa using e)] at h
      rw [if_neg (fun h => e h.1), if_pos (by simpa using e)]
      exact congrArg (x :: ·) (wakeL_filter c n xs k h)

theorem rsum_one {n t : Nat} (ht : t < n) {g : Nat → Nat} : g t ≤ rsum n g := by
  have := rsum_upd (n := n) (g := fun _ => 0) (h := g) ht fun s _ _ => Nat.zero_le _
  omega

/-- Who sleeps is one of so many. -/
theorem count_le {q : Nat → Bool} : ∀ (n : Nat) (l : List Slp), (l.map (·.t)).Nodup → (∀ s ∈ l, ∃ t : Nat, t < n ∧ s.t = t ∧ q t = true) → l.length ≤ rsum n fun u => if q u = true then 1 else 0
  | 0, l, _, h => by
    cases l with
    | nil => exact Nat.zero_le _
    | cons x l => obtain ⟨t, ht, _⟩ := h x (by simp); omega
  | n + 1, l, hd, h => by
    rw [rsum_succ]
    have hlen : l.length = (l.filter fun s => s.t != (n : Int)).length + (l.filter fun s => s.t == (n : Int)).length := by
      have := List.length_eq_countP_add_countP (p := fun s : Slp => s.t != (n : Int)) (l := l)
      rw [List.countP_eq_length_filter, List.countP_eq_length_filter] at this
      rw [this]
      congr 2
      refine List.filter_congr fun s _ => ?_
      rw [Bool.eq_iff_iff]
      simp
    have h1 := count_le n (l.filter fun s => s.t != (n : Int)) (hd.sublist (List.filter_sublist.map _)) fun s hs => by
      obtain ⟨hs, hne⟩ := List.mem_filter.1 hs
      obtain ⟨t, ht, e, hq⟩ := h s hs
      refine ⟨t, ?_, e, hq⟩
      have : t ≠ n := fun e2 => by rw [e, e2] at hne; simp at hne
      omega
    have h2 : (l.filter fun s => s.t == (n : Int)).length ≤ if q n = true then 1 else 0 := by
      cases hl : l.filter fun s => s.t == (n : Int) with
      | nil => exact Nat.zero_le _
      | cons x xs =>
        have hx : x ∈ l.filter fun s => s.t == (n : Int) := by rw [hl]; simp
        obtain ⟨hx, hxe⟩ := List.mem_filter.1 hx
        obtain ⟨t, ht, e, hq⟩ := h x hx
        have hxe : x.t = (n : Int) := by simpa using hxe
        obtain rfl : t = n := by omega
        rw [if_pos hq]
        cases xs with
        | nil => exact Nat.le_refl _
        | cons y ys =>
          exfalso
          have hnd : ((l.filter fun s => s.t == (t : Int)).map (·.t)).Nodup := hd.sublist (List.filter_sublist.map _)
          rw [hl, List.map_cons, List.map_cons, List.nodup_cons] at hnd
          have hy : y ∈ l.filter fun s => s.t == (t : Int) := by rw [hl]; simp
          have hye : y.t = t := by simpa using (List.mem_filter.1 hy).2
          exact hnd.1 (by rw [hxe, hye]; simp)
    omega

section
variable {n nc R : Nat} {P : Nat → List Pc} {wr : Nat → Option (Nat × Nat)} {A : Nat → AT} {V : Nat → Nat} {ss : List Slp} {t : Nat}

theorem awaits_of {Q : List Pc} {k c : Nat} (h : Q[k]? = some (.aw c)) : awaits Q c = true := List.any_eq_true.2 ⟨_, List.mem_of_getElem? h, by simp [isAw]⟩

theorem NI.sleepers (hI : NI n R P wr A V ss) (c : Nat) : ss.countP (fun s => s.c == (c : Int)) ≤ wtN n P c := by
  rw [List.countP_eq_length_filter]
  refine count_le n _ (hI.nd.sublist (List.filter_sublist.map _)) fun s hs => ?_
  obtain ⟨hs, hc⟩ := List.mem_filter.1 hs
  obtain ⟨t, k, c', ht, rfl, hl, hp, _⟩ := hI.slp s hs
  have : (c' : Int) = c := by simpa using hc
  obtain rfl : c' = c := by omega
  exact ⟨t, ht, rfl, awaits_of hp⟩

/-- One thread goes on: what is to be looked at. -/
theorem NI.upd (hN : NetOk n P wr) (hI : NI n R P wr A V ss) (ht : t < n) {a' : AT} {V' : Nat → Nat} {ss' : List Slp}
    (hreg : RegOk R a') (hcell : ∀ (k c s : Nat), (P t)[k]? = some (.tl c s) → V' c = tg (P t) a' k)
    (hV : ∀ c, V c ≤ V' c ∧ (V' c = V c ∨ ∃ p, wr c = some (t, p) ∧ a'.l = .pc p 1))
    (haw : ∀ (k c : Nat), (P t)[k]? = some (.aw c) → tg (P t) a' k ≤ V' c)
    (hmic : ∀ (k o c : Nat), a'.l = .pc k o → (P t)[k]? = some (.aw c) → MicOk a' o (V' c))
    (hss : ∀ s ∈ ss', (s ∈ ss ∧ s.t ≠ t ∧ ∀ (p c : Nat), s.c = (c : Int) → wr c = some (t, p) → (A t).l ≠ .pc p 1) ∨ ∃ k c : Nat, s = ⟨(t : Int), (c : Int)⟩ ∧ a'.l = .pc k 4 ∧ (P t)[k]? = some (.aw c) ∧ V' c < a'.r)
    (hnd : (ss'.map (·.t)).Nodup) : NI n R P wr (updA A t a') V' ss' := by
  refine ⟨fun u hu => ?_, fun u hu k c s hk => ?_, fun c hc => ?_, fun u hu k c hk => ?_, fun u hu k o c hl hk => ?_, fun s hs => ?_, hnd⟩
  · by_cases e : u = t
    · subst e; rw [updA_same]; exact hreg
    · rw [updA_ne _ _ e]; exact hI.reg u hu
  · by_cases e : u = t
    · subst e; rw [updA_same]; exact hcell k c s hk
    · rw [updA_ne _ _ e, ← hI.cell u hu k c s hk]
      rcases (hV c).2 with h | ⟨p, h, _⟩
      · exact h
      · rw [hN.tl u hu k c s hk] at h
        exact absurd (congrArg Prod.fst (Option.some.inj h)) e
  · rcases (hV c).2 with h | ⟨p, h, _⟩
    · rw [h]; exact hI.none c hc
    · have := hc t p h
      omega
  · by_cases e : u = t
    · subst e; rw [updA_same]; exact haw k c hk
    · rw [updA_ne _ _ e]
      exact Nat.le_trans (hI.await u hu k c hk) (hV c).1
  · by_cases e : u = t
    · subst e; rw [updA_same] at hl ⊢; exact hmic k o c hl hk
    · rw [updA_ne _ _ e] at hl ⊢
      exact (hI.mic u hu k o c hl hk).mono (hV c).1
  · rcases hss s hs with ⟨h1, h2, h3⟩ | ⟨k, c, rfl, h2, h3, h4⟩
    · obtain ⟨u, k, c, hu, rfl, hl, hk, hv⟩ := hI.slp s h1
      have e : u ≠ t := fun e => h2 (by rw [e])
      refine ⟨u, k, c, hu, rfl, by rw [updA_ne _ _ e]; exact hl, hk, ?_⟩
      rw [updA_ne _ _ e]
      rcases (hV c).2 with h | ⟨p, h, hp⟩
      · rcases hv with hv | ⟨w, p, hw, hp⟩
        · left; rw [h]; exact hv
        · right
          refine ⟨w, p, hw, ?_⟩
          have : w ≠ t := fun e2 => h3 p c rfl (by rw [← e2]; exact hw) (by rw [← e2]; exact hp)
          rw [updA_ne _ _ this]
          exact hp
      · right
        exact ⟨t, p, h, by rw [updA_same]; exact hp⟩
    · exact ⟨t, k, c, ht, rfl, by rw [updA_same]; exact h2, h3, by rw [updA_same]; exact .inl h4⟩

/-- A step that leaves cells, and what is done, as they were. -/
theorem NI.quiet (hN : NetOk n P wr) (hI : NI n R P wr A V ss) (ht : t < n) (hno : noT ss t) {a' : AT}
    (hreg : RegOk R a') (htg : ∀ k, k < (P t).length → tg (P t) a' k = tg (P t) (A t) k) (hmic : ∀ (k o c : Nat), a'.l = .pc k o → (P t)[k]? = some (.aw c) → MicOk a' o (V c))
    (hl : ∀ (p c s : Nat), (P t)[p]? = some (.tl c s) → (A t).l ≠ .pc p 1) : NI n R P wr (updA A t a') V ss :=
  hI.upd hN ht hreg (fun k c s hk => by rw [htg k (List.getElem?_eq_some_iff.1 hk).1]; exact hI.cell t ht k c s hk) (fun c => ⟨Nat.le_refl _, .inl rfl⟩)
    (fun k c hk => by rw [htg k (List.getElem?_eq_some_iff.1 hk).1]; exact hI.await t ht k c hk) hmic
    (fun s hs => .inl ⟨hs, hno s hs, fun p c hc hw hp => by
      obtain ⟨u, k, c', hu, rfl, hl', hk, _⟩ := hI.slp s hs
      have : (c' : Int) = c := hc
      obtain rfl : c' = c := by omega
      obtain ⟨u', p', s', hw', hu', hp'⟩ := hN.aw u hu k c' hk
      rw [hw] at hw'
      obtain ⟨rfl, rfl⟩ := Prod.mk.inj (Option.some.inj hw')
      exact hl p c' s' hp' hp⟩) hI.nd

theorem nx_mic {Q : List Pc} {k k' o : Nat} {a : AT} {v : Nat} (h : a.l = nxL Q k) (h2 : a.l = .pc k' o) : MicOk a o v := by
  rw [h, nxL] at h2
  split at h2
  · injection h2 with _ h2
    subst h2
    trivial
  · cases h2

theorem reg_nx {a : AT} {Q : List Pc} {k : Nat} (h : 1 ≤ a.r ∧ a.r ≤ R ∧ a.e = R + 1) (hl : a.l = nxL Q k) : RegOk R a := by
  rw [RegOk, hl, nxL]
  split <;> (rename_i h2; split at h2 <;> first | exact h | cases h2)

set_option maxHeartbeats 1000000 in
/-- WHAT HOLDS GOES ON HOLDING. -/
theorem NI.go (hN : NetOk n P wr) (hI : NI n R P wr A V ss) (ht : t < n) (hlo : LocOk (P t) (A t).l) (hd : isEnd (A t).l = false) (hno : noT ss t) :
    NI n R P wr (updA A t (stA R (P t) V (A t)).1) (efV V (stA R (P t) V (A t)).2) (efS t ss (stA R (P t) V (A t)).2) := by
  have hreg := hI.reg t ht
  have hcell := hI.cell t ht
  have hawt := hI.await t ht
  have hmic := hI.mic t ht
  have hq := fun a' => NI.quiet (a' := a') hN hI ht hno
  have hup := fun a' V' ss' => NI.upd (a' := a') (V' := V') (ss' := ss') hN hI ht
  generalize hA : A t = a at *
  obtain ⟨r, x, e, l⟩ := a
  cases l with
  | p0 =>
    refine hq ⟨1, x, e, .p1⟩ ⟨rfl, hreg.2⟩ (fun k _ => ?_) (fun k o c h => by cases h) fun p c s _ h => by cases h
    obtain rfl : r = 0 := hreg.1
    rfl
  | p1 =>
    obtain rfl : r = 1 := hreg.1
    exact hq ⟨1, x, R + 1, .head⟩ ⟨Nat.le_refl _, by show 1 ≤ R + 1; omega, rfl⟩ (fun k _ => rfl) (fun k o c h => by cases h) fun p c s _ h => by cases h
  | head =>
    obtain ⟨h1, h2, h3⟩ : 1 ≤ r ∧ r ≤ R + 1 ∧ e = R + 1 := hreg
    refine hq ⟨r, x, e, if r < e then .came else .halt⟩ ?_ (fun k _ => ?_) (fun k o c h => ?_) fun p c s _ h => by cases h
    · show RegOk R ⟨r, x, e, if r < e then .came else .halt⟩
      split
      · exact ⟨h1, by show r ≤ R; omega, h3⟩
      · exact ⟨by show r = R + 1; omega, h3⟩
    · show tg (P t) ⟨r, x, e, if r < e then .came else .halt⟩ k = _
      split <;> rfl
    · change (if r < e then NL.came else NL.halt) = .pc k o at h
      split at h <;> cases h
  | halt => exact hq ⟨r, x, e, .ended⟩ hreg (fun k _ => rfl) (fun k o c h => by cases h) fun p c s _ h => by cases h
  | ended => cases hd
  | came =>
    refine hq ⟨r, x, e, nxL (P t) 0⟩ (reg_nx hreg rfl) (fun k _ => ?_) (fun k o c h _ => nx_mic (a := ⟨r, x, e, nxL (P t) 0⟩) rfl h) fun p c s _ h => by cases h
    rw [tg, done_nx _ (Nat.zero_le _)]
    rfl
  | gone => exact hq ⟨r, x, e, .plus⟩ hreg (fun k _ => rfl) (fun k o c h => by cases h) fun p c s _ h => by cases h
  | plus =>
    obtain ⟨h1, h2, h3⟩ : 1 ≤ r ∧ r ≤ R ∧ e = R + 1 := hreg
    refine hq ⟨r + 1, x, e, .jump⟩ ⟨by show 1 ≤ r + 1; omega, by show r + 1 ≤ R + 1; omega, h3⟩ (fun k hk => ?_) (fun k o c h => by cases h) fun p c s _ h => by cases h
    show (if k < 0 then r + 1 else r + 1 - 1) = if k < (P t).length then r else r - 1
    rw [if_neg (by omega), if_pos hk]
    omega
  | jump => exact hq ⟨r, x, e, .head⟩ hreg (fun k _ => rfl) (fun k o c h => by cases h) fun p c s _ h => by cases h
  | pc k o =>
    obtain ⟨y, hy, ho⟩ := hlo
    have hkl := (List.getElem?_eq_some_iff.1 hy).1
    obtain ⟨h1, h2, h3⟩ : 1 ≤ r ∧ r ≤ R ∧ e = R + 1 := hreg
    rcases hN.kind t ht y (List.mem_of_getElem? hy) with ⟨c, rfl⟩ | ⟨c, s, rfl, hs⟩
    · have hst : stA R (P t) V ⟨r, x, e, .pc k o⟩ = awA V ⟨r, x, e, .pc k o⟩ c o (fun o => .pc k o) (nxL (P t) (k + 1)) := stA_pc hy
      rw [hst]
      have hlow : r ≤ V c + 1 := by
        have := hawt k c hy
        rw [tg, done_aw o hy, if_neg (Nat.lt_irrefl _)] at this
        change r - 1 ≤ V c at this
        omega
      have hm := hmic k o c rfl hy
      have htg : ∀ x' o', ∀ j, j < (P t).length → tg (P t) ⟨r, x', e, .pc k o'⟩ j = tg (P t) ⟨r, x, e, .pc k o⟩ j := fun x' o' j _ => by rw [tg, tg, done_aw o' hy, done_aw o hy]
      have hnt : ∀ (p d s' : Nat), (P t)[p]? = some (.tl d s') → NL.pc k o ≠ .pc p 1 := fun p d s' hp e => by
        injection e with e _
        rw [← e, hy] at hp
        cases hp
      have haw : ∀ {k' c' : Nat}, k' = k → (P t)[k']? = some (.aw c') → c' = c := fun e h => by
        rw [e, hy] at h
        injection h with h
        injection h with h
        exact h.symm
      rcases o with _ | _ | _ | _ | _ | o
      · show NI n R P wr (updA A t ⟨r, V c, e, .pc k 1⟩) (updV V c (V c)) ss
        rw [updV_same]
        refine hq _ ⟨h1, h2, h3⟩ (htg _ _) (fun k' o' c' h hk' => ?_) hnt
        injection h with hk ho'
        obtain rfl := haw hk.symm hk'
        subst ho'
        exact ⟨Nat.le_refl _, hlow⟩
      · show NI n R P wr (updA A t ⟨r, x, e, if x < r then .pc k 3 else .pc k 2⟩) V ss
        by_cases hx : x < r
        · rw [if_pos hx]
          refine hq _ ⟨h1, h2, h3⟩ (htg _ _) (fun k' o' c' h hk' => ?_) hnt
          injection h with hk ho'
          obtain rfl := haw hk.symm hk'
          subst ho'
          exact ⟨hx, hm.1, hm.2⟩
        · rw [if_neg hx]
          refine hq _ ⟨h1, h2, h3⟩ (htg _ _) (fun k' o' c' h hk' => ?_) hnt
          injection h with hk ho'
          obtain rfl := haw hk.symm hk'
          subst ho'
          have h9 : x ≤ V c' := hm.1
          show r ≤ V c'
          omega
      · have hr : r ≤ V c := hm
        refine hup ⟨r, x, e, nxL (P t) (k + 1)⟩ V ss (reg_nx ⟨h1, h2, h3⟩ rfl) (fun j d s' hj => ?_) (fun d => ⟨Nat.le_refl _, .inl rfl⟩) (fun j d hj => ?_) (fun k' o' c' h _ => nx_mic (a := ⟨r, x, e, nxL (P t) (k + 1)⟩) rfl h)
          (fun s hs => .inl ⟨hs, hno s hs, fun p d hd' hw hp => by
            obtain ⟨u, k', c', hu, rfl, hl', hk', _⟩ := hI.slp s hs
            have : (c' : Int) = d := hd'
            obtain rfl : c' = d := by omega
            obtain ⟨u', p', s', hw', hu', hp'⟩ := hN.aw u hu k' c' hk'
            rw [hw] at hw'
            obtain ⟨rfl, rfl⟩ := Prod.mk.inj (Option.some.inj hw')
            exact hnt p c' s' hp' hp⟩) hI.nd
        · have := hcell j d s' hj
          rw [this, tg, tg, done_nx _ hkl, done_aw _ hy]
          have : j ≠ k := fun e => by rw [e, hy] at hj; cases hj
          by_cases hjk : j < k
          · rw [if_pos hjk, if_pos (show j < k + 1 by omega)]
          · rw [if_neg hjk, if_neg (show ¬ j < k + 1 by omega)]
        · have h9 := hawt j d hj
          rw [tg, done_nx _ hkl]
          rw [tg, done_aw _ hy] at h9
          by_cases hjk : j < k
          · rw [if_pos hjk] at h9
            rw [if_pos (show j < k + 1 by omega)]
            exact h9
          · by_cases e : j = k
            · obtain rfl := haw e hj
              rw [if_pos (show j < k + 1 by omega)]
              exact hr
            · rw [if_neg hjk] at h9
              rw [if_neg (show ¬ j < k + 1 by omega)]
              exact h9
      · show NI n R P wr (updA A t ⟨r, x, e, .pc k 4⟩) (efV V (if V c = x then .slp c else .no)) (efS t ss (if V c = x then .slp c else .no))
        by_cases hv : V c = x
        · rw [if_pos hv]
          have hxr : x < r := hm.1
          refine hup ⟨r, x, e, .pc k 4⟩ V (ss ++ [⟨t, c⟩]) ⟨h1, h2, h3⟩ (fun j d s' hj => ?_) (fun d => ⟨Nat.le_refl _, .inl rfl⟩) (fun j d hj => ?_) (fun k' o' c' h _ => ?_) (fun s hs => ?_) ?_
          · rw [htg x 4 j (List.getElem?_eq_some_iff.1 hj).1]
            exact hcell j d s' hj
          · rw [htg x 4 j (List.getElem?_eq_some_iff.1 hj).1]
            exact hawt j d hj
          · injection h with _ h
            subst h
            trivial
          · rcases List.mem_append.1 hs with hs | hs
            · refine .inl ⟨hs, hno s hs, fun p d hd' hw hp => ?_⟩
              obtain ⟨u, k', c', hu, rfl, hl', hk', _⟩ := hI.slp s hs
              have : (c' : Int) = d := hd'
              obtain rfl : c' = d := by omega
              obtain ⟨u', p', s', hw', hu', hp'⟩ := hN.aw u hu k' c' hk'
              rw [hw] at hw'
              obtain ⟨rfl, rfl⟩ := Prod.mk.inj (Option.some.inj hw')
              exact hnt p c' s' hp' hp
            · exact .inr ⟨k, c, List.mem_singleton.1 hs, rfl, hy, by show V c < r; omega⟩
          · rw [List.map_append, List.nodup_append]
            refine ⟨hI.nd, by simp, fun y hy z hz => ?_⟩
            simp at hz
            subst hz
            obtain ⟨s, hs, rfl⟩ := List.mem_map.1 hy
            exact hno s hs
        · rw [if_neg hv]
          refine hq _ ⟨h1, h2, h3⟩ (htg _ _) (fun k' o' c' h hk' => ?_) hnt
          injection h with hk ho'
          subst ho'
          trivial
      · refine hq ⟨r, x, e, .pc k 0⟩ ⟨h1, h2, h3⟩ (htg _ _) (fun k' o' c' h hk' => ?_) hnt
        injection h with hk ho'
        subst ho'
        trivial
      · exact absurd ho (by show ¬ o + 5 < 5; omega)
    · have hw := hN.tl t ht k c s hy
      have hn1 : ∀ {j d s' : Nat}, (P t)[j]? = some (.tl d s') → d = c → j = k := fun hj e => by
        subst e
        have := hN.tl t ht _ _ _ hj
        rw [hw] at this
        exact (congrArg Prod.snd (Option.some.inj this)).symm
      rcases o with _ | _ | o
      · have hst : stA R (P t) V ⟨r, x, e, .pc k 0⟩ = (⟨r, x, e, .pc k 1⟩, .act 7 c (V c) r) := stA_pc hy
        rw [hst]
        have hvc : V c = r - 1 := by
          rw [hcell k c s hy, tg, done_tl0 hy, if_neg (Nat.lt_irrefl _)]
        have htg : ∀ j, j ≠ k → tg (P t) ⟨r, x, e, .pc k 1⟩ j = tg (P t) ⟨r, x, e, .pc k 0⟩ j := fun j hj => by
          rw [tg, tg, done_tl0 hy, done_tl1 0 hy]
          by_cases hjk : j < k
          · rw [if_pos hjk, if_pos (show j < k + 1 by omega)]
          · rw [if_neg hjk, if_neg (show ¬ j < k + 1 by omega)]
        refine hup ⟨r, x, e, .pc k 1⟩ (updV V c r) ss ⟨h1, h2, h3⟩ (fun j d s' hj => ?_) (fun d => ?_) (fun j d hj => ?_) (fun k' o' c' h hk' => ?_) (fun s' hs' => .inl ⟨hs', hno s' hs', fun p d hd' hw' hp => ?_⟩) hI.nd
        · by_cases e2 : d = c
          · obtain rfl := hn1 hj e2
            subst e2
            rw [tg, done_tl1 0 hy, if_pos (show j < j + 1 by omega)]
            show (if d = d then r else V d) = r
            rw [if_pos rfl]
          · have : j ≠ k := fun e => by
              rw [e, hy] at hj
              injection hj with hj
              injection hj with hj _
              exact e2 hj.symm
            rw [htg j this, ← hcell j d s' hj]
            show (if d = c then r else V d) = V d
            rw [if_neg e2]
        · show V d ≤ (if d = c then r else V d) ∧ ((if d = c then r else V d) = V d ∨ _)
          by_cases e2 : d = c
          · rw [if_pos e2, e2]
            exact ⟨by omega, .inr ⟨k, hw, rfl⟩⟩
          · rw [if_neg e2]
            exact ⟨Nat.le_refl _, .inl rfl⟩
        · have : j ≠ k := fun e => by rw [e, hy] at hj; cases hj
          rw [htg j this]
          have h9 := hawt j d hj
          show _ ≤ (if d = c then r else V d)
          by_cases e2 : d = c
          · rw [if_pos e2]
            rw [e2] at h9
            omega
          · rw [if_neg e2]
            exact h9
        · injection h with hk ho'
          rw [← hk, hy] at hk'
          cases hk'
        · injection hp with _ hp
          cases hp
      · have hst : stA R (P t) V ⟨r, x, e, .pc k 1⟩ = (⟨r, x, e, nxL (P t) (k + 1)⟩, .wk c s) := stA_pc hy
        have hwk : (wakeL c s 0 ss).2 = ss.filter fun x => x.c != (c : Int) := wakeL_filter c s ss 0 (by have := hI.sleepers c; omega)
        rw [hst]
        show NI n R P wr (updA A t ⟨r, x, e, nxL (P t) (k + 1)⟩) V (wakeL c s 0 ss).2
        rw [hwk]
        have htg : ∀ j, tg (P t) ⟨r, x, e, nxL (P t) (k + 1)⟩ j = tg (P t) ⟨r, x, e, .pc k 1⟩ j := fun j => by rw [tg, tg, done_nx _ hkl, done_tl1 0 hy]
        refine hup _ V _ (reg_nx ⟨h1, h2, h3⟩ rfl) (fun j d s' hj => ?_) (fun d => ⟨Nat.le_refl _, .inl rfl⟩) (fun j d hj => ?_) (fun k' o' c' h _ => nx_mic (a := ⟨r, x, e, nxL (P t) (k + 1)⟩) rfl h) (fun s' hs' => ?_) (hI.nd.sublist (List.filter_sublist.map _))
        · rw [htg]; exact hcell j d s' hj
        · rw [htg]; exact hawt j d hj
        · obtain ⟨hs', hne⟩ := List.mem_filter.1 hs'
          refine .inl ⟨hs', hno s' hs', fun p d hd' hw' hp => ?_⟩
          injection hp with hp _
          subst hp
          obtain ⟨u, k', c', hu, rfl, hl', hk', _⟩ := hI.slp s' hs'
          have : (c' : Int) = d := hd'
          obtain rfl : c' = d := by omega
          obtain ⟨u', p', s'', hw'', hu', hp'⟩ := hN.aw u hu k' c' hk'
          rw [hw'] at hw''
          obtain ⟨rfl, rfl⟩ := Prod.mk.inj (Option.some.inj hw'')
          rw [hy] at hp'
          injection hp' with hp'
          injection hp' with hp' _
          subst hp'
          simp at hne
      · exact absurd ho (by show ¬ o + 2 < 2; omega)

theorem NI.poke (hI : NI n R P wr A V ss) (t : Int) : NI n R P wr A V (ss.filter fun s => s.t != t) :=
  ⟨hI.reg, hI.cell, hI.none, hI.await, hI.mic, fun s hs => hI.slp s (List.mem_filter.1 hs).1, hI.nd.sublist (List.filter_sublist.map _)⟩

theorem NI.begin (n R : Nat) (P : Nat → List Pc) (wr : Nat → Option (Nat × Nat)) : NI n R P wr (fun _ => ⟨0, 0, 0, .p0⟩) (fun _ => 0) [] :=
  ⟨fun t _ => ⟨rfl, rfl⟩, fun t _ k c s _ => (by rw [tg]; split <;> rfl), fun c _ => rfl, fun t _ k c _ => (by rw [tg]; split <;> exact Nat.le_refl _), fun t _ k o c h _ => (by cases h), fun s h => (by simp at h), List.nodup_nil⟩

theorem tg_cm (Q : List Pc) (a : AT) (k : Nat) : tg Q a k ≤ cmA a := by
  obtain ⟨r, x, e, l⟩ := a
  rw [tg]
  cases l <;> (show (if k < _ then r else r - 1) ≤ _; split <;> first | omega | (rename_i h; exact absurd h (Nat.not_lt_zero _)) | (show _ ≤ r; omega) | (show _ ≤ r - 1; omega))

theorem tg_mono (Q : List Pc) (a : AT) {j k : Nat} (h : j ≤ k) : tg Q a k ≤ tg Q a j := by
  rw [tg, tg]
  split
  · rw [if_pos (by omega)]; exact Nat.le_refl _
  · split <;> omega

/-- Who is known, behind a piece, to have come. -/
def kn (P : Nat → List Pc) (wr : Nat → Option (Nat × Nat)) : Nat → Nat → Nat → Nat → Bool
  | 0, t, _, u => t == u
  | f + 1, t, k, u => t == u || (List.range (k + 1)).any fun j => match (P t)[j]? with
    | some (.aw c) => match wr c with
      | some (w, p) => kn P wr f w p u
      | none => false
    | _ => false

theorem kn_ok (hN : NetOk n P wr) (hI : NI n R P wr A V ss) : ∀ (f t k u : Nat), t < n → kn P wr f t k u = true → tg (P t) (A t) k ≤ cmA (A u)
  | 0, t, k, u, _, h => by
    obtain rfl : t = u := by simpa [kn] using h
    exact tg_cm _ _ _
  | f + 1, t, k, u, ht, h => by
    rw [kn, Bool.or_eq_true] at h
    rcases h with h | h
    · obtain rfl : t = u := by simpa using h
      exact tg_cm _ _ _
    · obtain ⟨j, hj, h⟩ := List.any_eq_true.1 h
      have hj := List.mem_range.1 hj
      split at h
      · rename_i c hc
        split at h
        · rename_i w p hw
          obtain ⟨u', p', s, hw', hu', hp⟩ := hN.aw t ht j c hc
          rw [hw] at hw'
          obtain ⟨rfl, rfl⟩ := Prod.mk.inj (Option.some.inj hw')
          have h1 := kn_ok hN hI f w p u hu' h
          have h2 := hI.cell w hu' p c s hp
          have h3 := hI.await t ht j c hc
          have h4 := tg_mono (P t) (A t) (show j ≤ k by omega)
          omega
        · cases h
      · cases h

/-- NOBODY GOES AHEAD OF ALL WHO COME. -/
theorem NI.safe (hN : NetOk n P wr) (hI : NI n R P wr A V ss) {f : Nat} (hk : ∀ t, t < n → ∀ u, u < n → t = u ∨ 0 < (P t).length ∧ kn P wr f t ((P t).length - 1) u = true)
    (ht : t < n) (hg : (A t).l = .gone) : ∀ u, u < n → (A t).r ≤ cmA (A u) := fun u hu => by
  rcases hk t ht u hu with rfl | ⟨hp, h⟩
  · rw [cmA, hg]; exact Nat.le_refl _
  · have := kn_ok hN hI f t _ u ht h
    rw [tg, hg, if_pos (by show _ < (P t).length; omega)] at this
    exact this

/-- No ring of waiting. -/
def dpB (P : Nat → List Pc) (wr : Nat → Option (Nat × Nat)) : Nat → Nat → Nat → Bool
  | 0, _, _ => false
  | f + 1, t, k => match (P t)[k]? with
    | some (.aw c) => match wr c with
      | some (w, p) => (List.range p).all fun j => match (P w)[j]? with
        | some (.aw _) => dpB P wr f w j
        | _ => true
      | none => false
    | _ => false

theorem no_ring (hN : NetOk n P wr) (hI : NI n R P wr A V ss) {F : Nat} (hd : ∀ t, t < n → ∀ (k c : Nat), (P t)[k]? = some (.aw c) → dpB P wr F t k = true)
    (hs : ∀ t, t < n → (A t).l = .ended ∨ ∃ s ∈ ss, s.t = t) : ∀ (r0 f t k c : Nat), t < n → (A t).r = r0 → (A t).l = .pc k 4 → (P t)[k]? = some (.aw c) → (∃ s ∈ ss, s.t = t) → dpB P wr f t k = true → False := by
  intro r0
  induction r0 using Nat.strongRecOn with
  | ind r0 ihr =>
    intro f
    induction f with
    | zero => intro t k c _ _ _ _ _ h; cases h
    | succ f ihf =>
      intro t k c ht hr hl hk ⟨s, hss, hst⟩ hdp
      obtain ⟨t', k', c', ht', rfl, hl', hk', hv⟩ := hI.slp s hss
      have : (t' : Int) = t := hst
      obtain rfl : t' = t := by omega
      rw [hl] at hl'
      obtain ⟨rfl, -⟩ := NL.pc.inj hl'
      rw [hk] at hk'
      obtain rfl := Pc.aw.inj (Option.some.inj hk')
      obtain ⟨w, p, s', hw, hwn, hp⟩ := hN.aw t' ht k c hk
      have hreg := hI.reg t' ht
      rw [RegOk, hl] at hreg
      have hv : V c < (A t').r := by
        rcases hv with hv | ⟨u, q, hu, hq⟩
        · exact hv
        · exfalso
          rw [hw] at hu
          obtain ⟨rfl, rfl⟩ := Prod.mk.inj (Option.some.inj hu)
          rcases hs w hwn with h | ⟨s2, hs2, e2⟩
          · rw [hq] at h; cases h
          · obtain ⟨t2, k2, c2, _, rfl, hl2, _⟩ := hI.slp s2 hs2
            have : (t2 : Int) = w := e2
            obtain rfl : t2 = w := by omega
            rw [hq] at hl2
            have := (NL.pc.inj hl2).2
            omega
      have hcw := hI.cell w hwn p c s' hp
      have hregw := hI.reg w hwn
      rcases hs w hwn with h | ⟨s2, hs2, e2⟩
      · rw [RegOk, h] at hregw
        rw [tg, h, if_neg (show ¬ p < doneL (P w) NL.ended from Nat.not_lt_zero _)] at hcw
        have := hreg.2.1
        have := hregw.1
        omega
      · obtain ⟨t2, j, c2, _, rfl, hl2, hj, _⟩ := hI.slp s2 hs2
        have : (t2 : Int) = w := e2
        obtain rfl : t2 = w := by omega
        rw [tg, hl2, done_aw 4 hj] at hcw
        rw [RegOk, hl2] at hregw
        have hle : (A t2).r ≤ r0 := by
          split at hcw <;> omega
        by_cases hlt : (A t2).r < r0
        · exact ihr _ hlt F t2 j c2 hwn rfl hl2 hj ⟨_, hs2, rfl⟩ (hd t2 hwn j c2 hj)
        · have hpj : ¬ p < j := fun h => by
            rw [if_pos h] at hcw
            omega
          have hne : j ≠ p := fun e => by rw [e, hp] at hj; cases hj
          rw [dpB, hk] at hdp
          dsimp only at hdp
          rw [hw] at hdp
          have := List.all_eq_true.1 hdp j (List.mem_range.2 (by omega))
          rw [hj] at this
          exact ihf t2 j c2 hwn (by omega) hl2 hj ⟨_, hs2, rfl⟩ this

/-- SOMEBODY CAN ALWAYS GO ON. -/
theorem NI.live (hN : NetOk n P wr) (hI : NI n R P wr A V ss) {F : Nat} (hd : ∀ t, t < n → ∀ (k c : Nat), (P t)[k]? = some (.aw c) → dpB P wr F t k = true)
    (hs : ∀ t, t < n → (A t).l = .ended ∨ ∃ s ∈ ss, s.t = t) : ∀ t, t < n → (A t).l = .ended := fun t ht => by
  rcases hs t ht with h | ⟨s, hss, e⟩
  · exact h
  · exfalso
    obtain ⟨t2, k, c, _, rfl, hl, hk, _⟩ := hI.slp s hss
    have : (t2 : Int) = t := e
    obtain rfl : t2 = t := by omega
    exact no_ring hN hI hd hs _ F t2 k c ht rfl hl hk ⟨_, hss, rfl⟩ (hd t2 ht k c hk)

end

end Go.Mac
end

/- Barriers of any kind: what is said, whoever goes on when, and in the end. -/
section
open Go Go.Proofs Go.Mac
set_option maxRecDepth 100000
namespace Go.Mac

/-- Who came, and went, behind events. -/
def evS (n : Nat) (l : List EvZ) : List Int × List Int := l.foldl (fun p e => (oneZ e p.1 p.2).2) (noughts n, noughts n)

theorem evS_snoc (n : Nat) (l : List EvZ) (e : EvZ) : evS n (l ++ [e]) = (oneZ e (evS n l).1 (evS n l).2).2 := by rw [evS, List.foldl_append]; rfl

theorem runZ_snoc : ∀ (l : List EvZ) (e : EvZ) (i : Nat) (c g : List Int), runZ l i c g = none → (oneZ e (l.foldl (fun p e => (oneZ e p.1 p.2).2) (c, g)).1 (l.foldl (fun p e => (oneZ e p.1 p.2).2) (c, g)).2).1 = 0 → runZ (l ++ [e]) i c g = none
  | [], e, i, c, g, _, h => by
    have h : (oneZ e c g).1 = 0 := h
    rw [List.nil_append, runZ, if_pos h]
    rfl
  | x :: l, e, i, c, g, h, h2 => by
    rw [List.cons_append, runZ]
    rw [runZ] at h
    split at h
    · rename_i h1
      rw [if_pos h1]
      exact runZ_snoc l e (i + 1) _ _ h h2
    · cases h

theorem check_snoc {n : Nat} {l : List EvZ} {e : EvZ} (h : checkZ n l = none) (h2 : (oneZ e (evS n l).1 (evS n l).2).1 = 0) : checkZ n (l ++ [e]) = none := runZ_snoc l e 0 _ _ h h2

theorem JInv.runS {n : Nat} : ∀ (l : List EvZ) (i : Nat) (c g : List Int) (a : Int), JInv n c g a → runZ l i c g = none → JInv n (l.foldl (fun p e => (oneZ e p.1 p.2).2) (c, g)).1 (l.foldl (fun p e => (oneZ e p.1 p.2).2) (c, g)).2 (l.foldl anyStep a) ∧ (l.foldl (fun p e => (oneZ e p.1 p.2).2) (c, g)).2 = l.foldl goneStep g
  | [], _, _, _, _, h, _ => ⟨h, rfl⟩
  | e :: l, i, c, g, a, h, hr => by
    rw [runZ] at hr
    split at hr
    · rename_i h0
      obtain ⟨h1, h2⟩ := h.step e h0
      obtain ⟨h3, h4⟩ := JInv.runS l (i + 1) _ _ _ h1 hr
      rw [List.foldl_cons, List.foldl_cons, List.foldl_cons]
      exact ⟨h3, by rw [← h2]; exact h4⟩
    · cases hr

theorem check_inv {n : Nat} {l : List EvZ} (h : checkZ n l = none) : JInv n (evS n l).1 (evS n l).2 (anyR l) ∧ (evS n l).2 = goneR n l := JInv.runS l 0 _ _ 0 (JInv.begin n) h

/-- A kind of barrier: what holds of it, and how much it can still do. -/
structure Bar (n R : Nat) (P : Nat → List Pc) (I : (Nat → AT) → (Nat → Nat) → List Slp → Prop) (F : (Nat → AT) → (Nat → Nat) → List Slp → Nat) : Prop where
  begin : I (fun _ => ⟨0, 0, 0, .p0⟩) (fun _ => 0) []
  go : ∀ A V ss t, I A V ss → t < n → LocOk (P t) (A t).l → isEnd (A t).l = false → noT ss t →
    I (updA A t (stA R (P t) V (A t)).1) (efV V (stA R (P t) V (A t)).2) (efS t ss (stA R (P t) V (A t)).2) ∧ F (updA A t (stA R (P t) V (A t)).1) (efV V (stA R (P t) V (A t)).2) (efS t ss (stA R (P t) V (A t)).2) + 1 ≤ F A V ss
  poke : ∀ A V ss (t : Int), I A V ss → I A V (ss.filter fun s => s.t != t) ∧ F A V (ss.filter fun s => s.t != t) ≤ F A V ss + 4
  reg : ∀ A V ss, I A V ss → ∀ t, t < n → RegOk R (A t)
  safe : ∀ A V ss t, I A V ss → t < n → (A t).l = .gone → ∀ u, u < n → (A t).r ≤ cmA (A u)
  live : ∀ A V ss, I A V ss → (∀ t, t < n → (A t).l = .ended ∨ ∃ s ∈ ss, s.t = t) → ∀ t, t < n → (A t).l = .ended

/-- What is said is right. -/
structure EvI (n : Nat) (A : Nat → AT) (el : List EvZ) : Prop where
  ok : checkZ n el = none
  c : (evS n el).1 = (List.range n).map fun t => (cmA (A t) : Int)
  g : (evS n el).2 = (List.range n).map fun t => (gnA (A t) : Int)
  len : el.length = rsum n fun t => cmA (A t) + gnA (A t)

theorem aw_cm {V : Nat → Nat} {a : AT} {c o : Nat} {f : Nat → NL} {out : NL} (hr : ∀ o, ∃ k o', f o = .pc k o') (hl : ∃ k o', a.l = .pc k o') (ho : (∃ k o', out = .pc k o') ∨ out = .gone) : cmA (awA V a c o f out).1 = cmA a ∧ gnA (awA V a c o f out).1 = gnA a := by
  obtain ⟨k, o', hl⟩ := hl
  obtain ⟨r, x, e, l⟩ := a
  dsimp only at hl
  subst hl
  have key : ∀ (x : Nat) (l : NL), (∃ k o', l = .pc k o') ∨ l = .gone → cmA ⟨r, x, e, l⟩ = r ∧ gnA ⟨r, x, e, l⟩ = r - 1 := fun x l h => by
    rcases h with ⟨k, o', rfl⟩ | rfl <;> exact ⟨rfl, rfl⟩
  rcases o with _ | _ | _ | _ | o
  · exact key _ _ (.inl (hr 1))
  · refine key _ (if x < r then f 3 else f 2) ?_
    split
    · exact .inl (hr 3)
    · exact .inl (hr 2)
  · exact key _ _ ho
  · exact key _ _ (.inl (hr 4))
  · exact key _ _ (.inl (hr 0))

theorem nx_pc (Q : List Pc) (k : Nat) : (∃ k' o', nxL Q k = .pc k' o') ∨ nxL Q k = .gone := by
  rw [nxL]
  split
  · exact .inl ⟨_, _, rfl⟩
  · exact .inr rfl

theorem cm_nx (r x e : Nat) (Q : List Pc) (k : Nat) : cmA ⟨r, x, e, nxL Q k⟩ = r ∧ gnA ⟨r, x, e, nxL Q k⟩ = r - 1 := by
  rcases nx_pc Q k with ⟨k', o', h⟩ | h <;> rw [h] <;> exact ⟨rfl, rfl⟩

/-- What a step says. -/
theorem st_say {R : Nat} {Q : List Pc} {V : Nat → Nat} {a : AT} (hr : RegOk R a) :
    ((∀ b x, (stA R Q V a).2 ≠ .say b x) ∧ cmA (stA R Q V a).1 = cmA a ∧ gnA (stA R Q V a).1 = gnA a) ∨
      (a.l = .came ∧ (stA R Q V a).2 = .say 1 a.r ∧ 1 ≤ a.r ∧ cmA a = a.r - 1 ∧ gnA a = a.r - 1 ∧ cmA (stA R Q V a).1 = a.r ∧ gnA (stA R Q V a).1 = a.r - 1) ∨
      (a.l = .gone ∧ (stA R Q V a).2 = .say 2 a.r ∧ 1 ≤ a.r ∧ cmA a = a.r ∧ gnA a = a.r - 1 ∧ cmA (stA R Q V a).1 = a.r ∧ gnA (stA R Q V a).1 = a.r) := by
  obtain ⟨r, x, e, l⟩ := a
  cases l with
  | p0 =>
    obtain rfl : r = 0 := hr.1
    exact .inl ⟨fun b x h => (by cases h), rfl, rfl⟩
  | p1 => exact .inl ⟨fun b x h => (by cases h), rfl, rfl⟩
  | head =>
    refine .inl ⟨fun b x h => (by cases h), ?_⟩
    show cmA ⟨r, x, e, if r < e then .came else .halt⟩ = r - 1 ∧ gnA ⟨r, x, e, if r < e then .came else .halt⟩ = r - 1
    split <;> exact ⟨rfl, rfl⟩
  | halt => exact .inl ⟨fun b x h => (by cases h), rfl, rfl⟩
  | came => exact .inr (.inl ⟨rfl, rfl, hr.1, rfl, rfl, (cm_nx _ _ _ _ _).1, (cm_nx _ _ _ _ _).2⟩)
  | gone => exact .inr (.inr ⟨rfl, rfl, hr.1, rfl, rfl, rfl, rfl⟩)
  | plus => exact .inl ⟨fun b x h => (by cases h), rfl, rfl⟩
  | jump => exact .inl ⟨fun b x h => (by cases h), rfl, rfl⟩
  | ended => exact .inl ⟨fun b x h => (by cases h), rfl, rfl⟩
  | pc k o =>
    left
    have haw : ∀ (c o : Nat) (f : Nat → NL) (out : NL) b x', (awA V ⟨r, x, e, .pc k o⟩ c o f out).2 ≠ .say b x' := fun c o f out b x' h => by
      rcases o with _ | _ | _ | _ | o
      · cases h
      · cases h
      · cases h
      · change (if V c = x then Ef.slp c else .no) = .say b x' at h
        split at h <;> cases h
      · cases h
    have haw2 : ∀ (a : AT) (c o : Nat) (f : Nat → NL) (out : NL) b x', (awA V a c o f out).2 ≠ .say b x' := fun a c o f out b x' h => by
      rcases o with _ | _ | _ | _ | o
      · cases h
      · cases h
      · cases h
      · change (if V c = a.x then Ef.slp c else .no) = .say b x' at h
        split at h <;> cases h
      · cases h
    cases hy : Q[k]? with
    | none =>
      have : stA R Q V ⟨r, x, e, .pc k o⟩ = (⟨r, x, e, .pc k o⟩, .no) := by rw [stA]; dsimp only; rw [hy]
      rw [this]
      exact ⟨fun b x h => (by cases h), rfl, rfl⟩
    | some y =>
      rw [stA_pc hy]
      cases y with
      | aw c => exact ⟨fun b x' h => haw2 _ _ _ _ _ _ _ h, aw_cm (fun o => ⟨_, _, rfl⟩) ⟨_, _, rfl⟩ (nx_pc _ _)⟩
      | tl c n =>
        rcases o with _ | o
        · exact ⟨fun b x h => (by cases h), rfl, rfl⟩
        · exact ⟨fun b x h => (by cases h), cm_nx _ _ _ _ _⟩
      | up c s j =>
        rcases o with _ | _ | o
        · exact ⟨fun b x h => (by cases h), rfl, rfl⟩
        · refine ⟨fun b x h => (by cases h), ?_⟩
          show cmA ⟨r, x, e, if (x : Int) = s - 1 then nxL Q (k + 1) else .pc k 2⟩ = r ∧ gnA ⟨r, x, e, if (x : Int) = s - 1 then nxL Q (k + 1) else .pc k 2⟩ = r - 1
          split
          · exact cm_nx _ _ _ _ _
          · exact ⟨rfl, rfl⟩
        · by_cases h5 : o = 5
          · subst h5
            exact ⟨fun b x h => (by cases h), cm_nx _ _ _ _ _⟩
          · have : stPc Q V ⟨r, x, e, .pc k (o + 1 + 1)⟩ k (o + 1 + 1) (.up c s j) = awA V ⟨r, x, e, .pc k (o + 1 + 1)⟩ (c + 1) o (fun o => .pc k (o + 2)) (.pc k 7) := stPc_up h5
            rw [this]
            exact ⟨fun b x' h => haw2 _ _ _ _ _ _ _ h, aw_cm (fun o => ⟨_, _, rfl⟩) ⟨_, _, rfl⟩ (.inl ⟨_, _, rfl⟩)⟩
      | dn c s =>
        rcases o with _ | _ | _ | o
        · exact ⟨fun b x h => (by cases h), rfl, rfl⟩
        · exact ⟨fun b x h => (by cases h), rfl, rfl⟩
        · exact ⟨fun b x h => (by cases h), rfl, rfl⟩
        · exact ⟨fun b x h => (by cases h), cm_nx _ _ _ _ _⟩

theorem range_set {n t : Nat} {f g : Nat → Int} (h : ∀ s, s ≠ t → f s = g s) : ((List.range n).map f).set t (g t) = (List.range n).map g := by
  refine List.ext_getElem? fun j => ?_
  by_cases hj : j < n
  · by_cases e : t = j
    · subst e
      rw [List.getElem?_set_self (by simpa using hj), List.getElem?_map, List.getElem?_range hj]
      rfl
    · rw [List.getElem?_set_ne e, List.getElem?_map, List.getElem?_map, List.getElem?_range hj]
      exact congrArg some (h j fun h => e h.symm)
  · rw [List.getElem?_eq_none (by simp; omega), List.getElem?_eq_none (by simp; omega)]

theorem rsum_set {n t : Nat} {g h : Nat → Nat} (ht : t < n) (hl : ∀ s, s ≠ t → g s = h s) : rsum n g + h t = rsum n h + g t := by
  have h1 := rsum_upd (n := n) (g := g) (h := h) ht fun s _ e => Nat.le_of_eq (hl s e)
  have h2 := rsum_upd (n := n) (g := h) (h := g) ht fun s _ e => Nat.le_of_eq (hl s e).symm
  omega

theorem EvI.go {n R : Nat} {P : Nat → List Pc} {A : Nat → AT} {V : Nat → Nat} {el : List EvZ} {t k : Nat} (h : EvI n A el) (ht : t < n) (hreg : RegOk R (A t)) (hs : (A t).l = .gone → ∀ u, u < n → (A t).r ≤ cmA (A u)) :
    EvI n (updA A t (stA R (P t) V (A t)).1) (efE k t el (stA R (P t) V (A t)).2) := by
  have hg : ∀ (f : Nat → Nat) , (((List.range n).map fun t => (f t : Int))).getD t 0 = f t := fun f => by
    rw [List.getD_eq_getElem?_getD, List.getElem?_map, List.getElem?_range ht]; rfl
  have hl : ∀ (f : Nat → Nat), (((List.range n).map fun t => (f t : Int))).length = n := fun f => by simp
  have hne : ∀ (f : AT → Nat) (s' : AT) s, s ≠ t → (f (A s) : Int) = f (updA A t s' s) := fun f s' s e => by rw [updA_ne _ _ e]
  rcases st_say (Q := P t) (V := V) hreg with ⟨h1, h2, h3⟩ | ⟨hl1, h1, h2, h3, h4, h5, h6⟩ | ⟨hl1, h1, h2, h3, h4, h5, h6⟩
  · have hsame : efE k t el (stA R (P t) V (A t)).2 = el := by
      cases hE : (stA R (P t) V (A t)).2 with
      | say b x => exact absurd hE (h1 b x)
      | _ => rfl
    have ec : ∀ s, cmA (updA A t (stA R (P t) V (A t)).1 s) = cmA (A s) := fun s => by
      by_cases e : s = t
      · subst e; rw [updA_same]; exact h2
      · rw [updA_ne _ _ e]
    have eg : ∀ s, gnA (updA A t (stA R (P t) V (A t)).1 s) = gnA (A s) := fun s => by
      by_cases e : s = t
      · subst e; rw [updA_same]; exact h3
      · rw [updA_ne _ _ e]
    rw [hsame]
    refine ⟨h.ok, ?_, ?_, ?_⟩
    · rw [h.c]; exact List.map_congr_left fun s _ => by rw [ec]
    · rw [h.g]; exact List.map_congr_left fun s _ => by rw [eg]
    · rw [h.len]; congr 1; exact funext fun s => by rw [ec, eg]
  · have one : oneZ ⟨(k : Int), 1, t, (A t).r⟩ (evS n el).1 (evS n el).2 = (0, ((evS n el).1.set t ((A t).r : Int)), (evS n el).2) := by
      have e1 : (evS n el).1.getD t 0 = ((A t).r : Int) - 1 := by rw [h.c, hg, h3]; omega
      have e2 : (evS n el).2.getD t 0 = ((A t).r : Int) - 1 := by rw [h.g, hg, h4]; omega
      rw [oneZ, if_neg (by simp), if_neg (by rw [h.c, hl]; show ¬ ((t : Int) < 0 ∨ (t : Int) ≥ n); omega), if_pos rfl]
      dsimp only
      rw [Int.toNat_natCast, e1, e2, if_neg (by omega)]
      rw [show ((A t).r : Int) - 1 + 1 = (A t).r by omega]
    have hE : efE k t el (stA R (P t) V (A t)).2 = el ++ [⟨(k : Int), 1, t, (A t).r⟩] := by rw [h1]; rfl
    rw [hE]
    have hs2 : evS n (el ++ [⟨(k : Int), 1, t, (A t).r⟩]) = ((evS n el).1.set t ((A t).r : Int), (evS n el).2) := by rw [evS_snoc, one]
    refine ⟨check_snoc h.ok (by rw [one]), ?_, ?_, ?_⟩
    · rw [hs2]
      show (evS n el).1.set t _ = _
      rw [h.c]
      have := range_set (n := n) (t := t) (f := fun s => (cmA (A s) : Int)) (g := fun s => (cmA (updA A t (stA R (P t) V (A t)).1 s) : Int)) fun s e => hne cmA _ s e
      rw [← this]
      rw [updA_same, h5]
    · rw [hs2]
      show (evS n el).2 = _
      rw [h.g]
      refine List.map_congr_left fun s _ => ?_
      by_cases e : s = t
      · subst e; rw [updA_same, h6, h4]
      · rw [updA_ne _ _ e]
    · rw [List.length_append, h.len]
      have := rsum_set (n := n) (t := t) (g := fun s => cmA (A s) + gnA (A s)) (h := fun s => cmA (updA A t (stA R (P t) V (A t)).1 s) + gnA (updA A t (stA R (P t) V (A t)).1 s)) ht fun s e => by rw [updA_ne _ _ e]
      rw [updA_same, h5, h6, h3, h4] at this
      show rsum n _ + 1 = _
      omega
  · have one : oneZ ⟨(k : Int), 2, t, (A t).r⟩ (evS n el).1 (evS n el).2 = (0, (evS n el).1, ((evS n el).2.set t ((A t).r : Int))) := by
      have e1 : (evS n el).1.getD t 0 = ((A t).r : Int) := by rw [h.c, hg, h3]
      have e2 : (evS n el).2.getD t 0 = ((A t).r : Int) - 1 := by rw [h.g, hg, h4]; omega
      rw [oneZ, if_neg (by simp), if_neg (by rw [h.c, hl]; show ¬ ((t : Int) < 0 ∨ (t : Int) ≥ n); omega), if_neg (show ¬ (2 : Int) = 1 by decide)]
      dsimp only
      rw [Int.toNat_natCast, e1, e2, if_neg (by omega), if_neg ?_]
      · rw [show ((A t).r : Int) - 1 + 1 = (A t).r by omega]
      · rw [Bool.not_eq_true, List.any_eq_false]
        intro x hx
        rw [h.c] at hx
        obtain ⟨u, hu, rfl⟩ := List.mem_map.1 hx
        have := hs hl1 u (List.mem_range.1 hu)
        simp
        omega
    have hE : efE k t el (stA R (P t) V (A t)).2 = el ++ [⟨(k : Int), 2, t, (A t).r⟩] := by rw [h1]; rfl
    rw [hE]
    have hs2 : evS n (el ++ [⟨(k : Int), 2, t, (A t).r⟩]) = ((evS n el).1, (evS n el).2.set t ((A t).r : Int)) := by rw [evS_snoc, one]
    refine ⟨check_snoc h.ok (by rw [one]), ?_, ?_, ?_⟩
    · rw [hs2]
      show (evS n el).1 = _
      rw [h.c]
      refine List.map_congr_left fun s _ => ?_
      by_cases e : s = t
      · subst e; rw [updA_same, h5, h3]
      · rw [updA_ne _ _ e]
    · rw [hs2]
      show (evS n el).2.set t _ = _
      rw [h.g]
      have := range_set (n := n) (t := t) (f := fun s => (gnA (A s) : Int)) (g := fun s => (gnA (updA A t (stA R (P t) V (A t)).1 s) : Int)) fun s e => hne gnA _ s e
      rw [← this]
      rw [updA_same, h6]
    · rw [List.length_append, h.len]
      have := rsum_set (n := n) (t := t) (g := fun s => cmA (A s) + gnA (A s)) (h := fun s => cmA (updA A t (stA R (P t) V (A t)).1 s) + gnA (updA A t (stA R (P t) V (A t)).1 s)) ht fun s e => by rw [updA_ne _ _ e]
      rw [updA_same, h5, h6, h3, h4] at this
      show rsum n _ + 1 = _
      omega

theorem EvI.begin (n : Nat) : EvI n (fun _ => ⟨0, 0, 0, .p0⟩) [] := by
  have hz : noughts n = (List.range n).map fun t => ((0 : Nat) : Int) := by
    refine List.ext_getElem (by simp [noughts]) fun i h1 h2 => ?_
    simp [noughts]
  refine ⟨rfl, hz, hz, ?_⟩
  have := rsum_const n 0 (fun _ => cmA ⟨0, 0, 0, .p0⟩ + gnA ⟨0, 0, 0, .p0⟩) fun s _ => Nat.le_refl _
  show 0 = rsum n (fun _ => cmA ⟨0, 0, 0, .p0⟩ + gnA ⟨0, 0, 0, .p0⟩)
  omega

/-- All that holds of a barrier, so much pushed on. -/
structure DI (n nc R : Nat) (P : Nat → List Pc) (I : (Nat → AT) → (Nat → Nat) → List Slp → Prop) (F : (Nat → AT) → (Nat → Nat) → List Slp → Nat) (b : Nat) (A : Nat → AT) (V : Nat → Nat) (m : MZ) : Prop where
  abs : Abs n nc R P A V m
  inv : I A V m.ss
  ev : EvI n A m.el
  pot : F A V m.ss + m.k ≤ b

section
variable {n nc R : Nat} {P : Nat → List Pc} {I : (Nat → AT) → (Nat → Nat) → List Slp → Prop} {F : (Nat → AT) → (Nat → Nat) → List Slp → Nat} {b : Nat} {A : Nat → AT} {V : Nat → Nat} {m : MZ}

theorem DI.go (hB : Bar n R P I F) (h : DI n nc R P I F b A V m) {t : Nat} (hc : canZ m t = true) (hk : m.k < 20000) : ∃ A' V', DI n nc R P I F b A' V' (stepZ m t).2 := by
  obtain ⟨g1, g2, g3, g4, g5⟩ := h.abs.go hc hk
  obtain ⟨ht, hd, hno⟩ := h.abs.can hc
  obtain ⟨i1, i2⟩ := hB.go A V m.ss t h.inv ht (h.abs.lo t ht) hd hno
  have hp := h.pot
  refine ⟨_, _, g1, by rw [g2]; exact i1, ?_, by rw [g2, g5]; omega⟩
  rw [g4]
  exact h.ev.go ht (hB.reg A V m.ss h.inv t ht) fun hg => hB.safe A V m.ss t h.inv ht hg

theorem DI.poke (hB : Bar n R P I F) (h : DI n nc R P I F b A V m) (t : Int) : DI n nc R P I F (b + 4) A V (pokeZ m t) := by
  obtain ⟨i1, i2⟩ := hB.poke A V m.ss t h.inv
  have hp := h.pot
  exact ⟨h.abs.poke t, i1, h.ev, by show F A V (m.ss.filter fun s => s.t != t) + m.k ≤ b + 4; omega⟩

theorem DI.moves (hB : Bar n R P I F) : ∀ (l : List MoveZ) {b : Nat} {m : MZ}, (∃ A V, DI n nc R P I F b A V m) → ∃ A V, DI n nc R P I F (b + 4 * l.length) A V (movesZ m l)
  | [], b, m, h => h
  | x :: l, b, m, ⟨A, V, h⟩ => by
    have h1 : ∃ A V, DI n nc R P I F (b + 4) A V (moveZ m x) := by
      rw [moveZ]
      split
      · exact ⟨A, V, h.poke hB _⟩
      · rcases step_or h.abs.wf x.th with e | ⟨s, e, hc, hk⟩
        · rw [e]; exact ⟨A, V, h.abs, h.inv, h.ev, by have := h.pot; omega⟩
        · rw [e]
          obtain ⟨A', V', h'⟩ := h.go hB hc hk
          exact ⟨A', V', h'.abs, h'.inv, h'.ev, by have := h'.pot; omega⟩
    have := DI.moves hB l h1
    rw [List.length_cons, show b + 4 * (l.length + 1) = b + 4 + 4 * l.length by omega]
    exact this

/-- In the end. -/
theorem DI.finish (hB : Bar n R P I F) (h : DI n nc R P I F b A V m) (hb : b < 20000) : ∃ A' V', DI n nc R P I F b A' V' (finish m) ∧ ∀ t, t < n → (A' t).l = .ended := by
  obtain ⟨⟨A', V', h'⟩, hn⟩ := finish_inv (P := fun m => ∃ A V, DI n nc R P I F b A V m) (fun m t h hc hk => by obtain ⟨A, V, h⟩ := h; exact h.go hB hc hk) ⟨A, V, h⟩ h.abs.wf
  refine ⟨A', V', h', ?_⟩
  refine hB.live A' V' _ h'.inv fun t ht => ?_
  have hp := h'.pot
  have hx := h'.abs.ts t ht
  have hc : ¬ canZ (Go.Mac.finish m) (t : Int) = true := fun hc => hn t (by rw [h'.abs.ln]; exact ht) ⟨hc, by omega⟩
  by_cases hd : isEnd (A' t).l = true
  · left
    cases hl : (A' t).l <;> rw [hl] at hd <;> first | rfl | cases hd
  · right
    refine Classical.byContradiction fun hne => hc (can_in hx (show isEnd (A' t).l = false by simpa using hd) fun s hs e => hne ⟨s, hs, e⟩)

theorem rsum_same (c : Nat) : ∀ n, rsum n (fun _ => c) = n * c
  | 0 => by simp [rsum]
  | n + 1 => by rw [rsum_succ, rsum_same c n, Nat.succ_mul]

/-- What is left in the end. -/
theorem DI.ended (hB : Bar n R P I F) (h : DI n nc R P I F b A V m) (hn : 1 ≤ n) (he : ∀ t, t < n → (A t).l = .ended) :
    allZ m = true ∧ stuckZ m = false ∧ checkZ n m.el = none ∧ allG n m.el = R ∧ anyR m.el = R ∧ m.el.length = 2 * n * R := by
  have hr : ∀ t, t < n → (A t).r = R + 1 := fun t ht => by
    have := hB.reg A V _ h.inv t ht
    rw [RegOk, he t ht] at this
    exact this.1
  have hall : allZ m = true := by
    rw [allZ, List.all_eq_true]
    intro x hx
    obtain ⟨t, ht⟩ := List.mem_iff_getElem?.1 hx
    have htl := (List.getElem?_eq_some_iff.1 ht).1
    rw [h.abs.ln] at htl
    rw [h.abs.ts t htl] at ht
    obtain rfl := Option.some.inj ht
    show isEnd (A t).l = true
    rw [he t htl]
    rfl
  have hc : ∀ t, t < n → cmA (A t) = R := fun t ht => by rw [cmA, he t ht]; have := hr t ht; show (A t).r - 1 = R; omega
  have hg : ∀ t, t < n → gnA (A t) = R := fun t ht => by rw [gnA, he t ht]; have := hr t ht; show (A t).r - 1 = R; omega
  obtain ⟨hj, hgr⟩ := check_inv h.ev.ok
  have hgd : ∀ u, u < n → (goneR n m.el).getD u 0 = R := fun u hu => by
    rw [← hgr, h.ev.g, List.getD_eq_getElem?_getD, List.getElem?_map, List.getElem?_range hu]
    show (gnA (A u) : Int) = R
    rw [hg u hu]
  have hcd : ∀ u, u < n → (evS n m.el).1.getD u 0 = R := fun u hu => by
    rw [h.ev.c, List.getD_eq_getElem?_getD, List.getElem?_map, List.getElem?_range hu]
    show (cmA (A u) : Int) = R
    rw [hc u hu]
  refine ⟨hall, by rw [stuckZ, hall]; simp, h.ev.ok, ?_, ?_, ?_⟩
  · obtain ⟨u, hu, e⟩ := (allG_min hn m.el).2
    rw [e, hgd u hu]
  · have h1 := hj.le 0 hn
    rw [hcd 0 hn] at h1
    rcases hj.top with h2 | ⟨u, hu, h2⟩
    · omega
    · rw [hcd u hu] at h2
      exact h2.symm
  · rw [h.ev.len]
    have h1 : rsum n (fun t => cmA (A t) + gnA (A t)) = rsum n fun _ => 2 * R := by
      refine Nat.le_antisymm (rsum_le fun s hs => ?_) (rsum_le fun s hs => ?_) <;> rw [hc s hs, hg s hs] <;> omega
    rw [h1, rsum_same, Nat.mul_left_comm, ← Nat.mul_assoc]

end
end Go.Mac
end
