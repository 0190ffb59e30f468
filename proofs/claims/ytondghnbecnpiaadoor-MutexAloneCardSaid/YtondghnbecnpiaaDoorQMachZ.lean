/- The machine of threads: what it is, and what a step does, in plain terms. -/
import Derived.Test.YtondghnbecnpiaaDoorQParkWake
import Derived.Test.YtondghnbecnpiaaDoorQParkDel
import Derived.Test.YtondghnbecnpiaaDoorQMem
import Derived.Test.YtondghnbecnpiaaDoorQJudge
import Derived.Test.YtondghnbecnpiaaDoorQRight
open Go Go.Proofs Go.Mac
set_option maxRecDepth 100000
namespace Go.Mac

structure ThZ where
  pc : Nat
  rg : List Int
  dn : Bool

structure ActZ where
  w : Int
  t : Int
  o : Int
  c : Int
  x : Int
  y : Int

structure MZ where
  ps : List (List InsZ)
  ts : List ThZ
  ws : List Int
  ss : List Slp
  al : List ActZ
  el : List EvZ
  k : Nat
  nc : Nat

abbrev rowT (x : ThZ) : List FC := .int .i64 x.pc :: (x.rg.map (FC.int .u64) ++ [.bool x.dn])
abbrev rowAct (x : ActZ) : List FC := [.int .i64 x.w, .int .i64 x.t, .int .i64 x.o, .int .i64 x.c, .int .u64 x.x, .int .u64 x.y]

abbrev u64m (x : Int) : Int := IntKind.u64.wrap x
/-- So many bits from one on. -/
def bitsZ (r c d : Int) : Int := IntKind.u64.wrap ((BitVec.ofInt 64 (r.fdiv (2 ^ (min c.toNat 64))) &&& BitVec.ofInt 64 (IntKind.u64.wrap (IntKind.u64.wrap (1 * 2 ^ (min d.toNat 64)) - 1))).toNat)
def rgZ (r : List Int) (j : Int) : Int := r.getD j.toNat 0
def rgS (r : List Int) (j v : Int) : List Int := r.set j.toNat v

/-- An instruction that asks no cell. -/
def localZ (x : ThZ) (i : InsZ) : Option ThZ :=
  if i.op = 0 then some { x with dn := true }
  else if i.op = 1 then some { x with rg := rgS x.rg i.a (u64m i.b) }
  else if i.op = 2 then some { x with rg := rgS x.rg i.a (rgZ x.rg i.b) }
  else if i.op = 3 then some { x with rg := rgS x.rg i.a (u64m (rgZ x.rg i.b + u64m i.c)) }
  else if i.op = 4 then some { x with rg := rgS x.rg i.a (u64m (rgZ x.rg i.b + rgZ x.rg i.c)) }
  else if i.op = 5 then some { x with rg := rgS x.rg i.a (bitsZ (rgZ x.rg i.b) i.c i.d) }
  else if i.op = 10 then some { x with pc := i.a.toNat }
  else if i.op = 11 then some (if rgZ x.rg i.a = u64m i.b then { x with pc := i.c.toNat } else x)
  else if i.op = 12 then some (if rgZ x.rg i.a < rgZ x.rg i.b then { x with pc := i.c.toNat } else x)
  else if i.op = 13 then some (if rgZ x.rg i.a = rgZ x.rg i.b then { x with pc := i.c.toNat } else x)
  else none

def MZ.th (m : MZ) (t : Nat) (x : ThZ) : MZ := { m with ts := m.ts.set t x }
def MZ.act (m : MZ) (t o c x y : Int) : MZ := { m with al := m.al ++ [⟨m.k, t, o, c, x, y⟩] }

/-- Which cell an offset tells of; beyond all, if it is none. -/
def offZ (x : ThZ) (i : InsZ) : Option Int :=
  if i.c < 0 then some i.a else if 300 ≤ rgZ x.rg i.c then none else some (i.a + rgZ x.rg i.c)

/-- An instruction that asks a cell, or says something, of a thread whose place is told already. -/
def farZ (m : MZ) (t : Nat) (x : ThZ) (i : InsZ) : Option MZ :=
  if i.op = 6 then some ((m.th t { x with rg := rgS x.rg i.a (rgZ m.ws i.b) }).act t 6 i.b (rgZ m.ws i.b) (rgZ m.ws i.b))
  else if i.op = 8 then some ({ m.th t { x with rg := rgS x.rg i.a (rgZ m.ws i.b) } with ws := rgS m.ws i.b (u64m (rgZ m.ws i.b + u64m i.c)) }.act t 8 i.b (rgZ m.ws i.b) (u64m (rgZ m.ws i.b + u64m i.c)))
  else if i.op = 9 then
    if rgZ m.ws i.b = rgZ x.rg i.c then some ({ m.th t { x with rg := rgS x.rg i.a 1 } with ws := rgS m.ws i.b (rgZ x.rg i.d) }.act t 9 i.b (rgZ m.ws i.b) (rgZ x.rg i.d))
    else some ((m.th t { x with rg := rgS x.rg i.a 0 }).act t 9 i.b (rgZ m.ws i.b) (rgZ m.ws i.b))
  else if i.op = 14 then some (if rgZ m.ws i.a = rgZ x.rg i.b then { m with ss := m.ss ++ [⟨t, i.a⟩] } else m)
  else if i.op = 16 then some { m with el := m.el ++ [⟨m.k, i.a, t, IntKind.i64.wrap (rgZ x.rg i.b)⟩] }
  else match offZ x i with
    | none => none
    | some c => if c < m.nc then
        if i.op = 15 then some { m with ss := (wakeL c i.b 0 m.ss).2 }
        else some ({ m with ws := rgS m.ws c (rgZ x.rg i.b) }.act t i.op c (rgZ m.ws c) (rgZ x.rg i.b))
      else none

def insZ (m : MZ) (t : Nat) (pc : Nat) : InsZ := ((m.ps.getD t []).getD pc ⟨0, 0, 0, 0, 0⟩)
def thZ (m : MZ) (t : Nat) : ThZ := m.ts.getD t ⟨0, [], true⟩

/-- A thread's place behind its next instruction; one step more. -/
def onZ (m : MZ) (t : Nat) : MZ := { m with k := m.k + 1 }.th t { thZ m t with pc := (thZ m t).pc + 1 }

/-- What an instruction of a thread, whose place is told, does; 13: it asks for a cell that is none. -/
def doZ (m : MZ) (t : Nat) (x : ThZ) (i : InsZ) : Int × MZ :=
  match localZ x i with
  | some x' => (0, m.th t x')
  | none =>
    match farZ m t x i with
    | some m' => (0, m')
    | none => (13, m.th t { x with dn := true })

/-- What a thread's next instruction does. -/
def goZ (m : MZ) (t : Nat) : Int × MZ := doZ (onZ m t) t { thZ m t with pc := (thZ m t).pc + 1 } (insZ m t (thZ m t).pc)

def asleepZ (m : MZ) (t : Int) : Bool := m.ss.any fun s => s.t == t

/-- A step: what is wrong, and the machine behind it. -/
def stepZ (m : MZ) (t : Int) : Int × MZ :=
  if t < 0 ∨ (m.ts.length : Int) ≤ t then (2, m)
  else if (thZ m t.toNat).dn then (6, m)
  else if asleepZ m t then (8, m)
  else if m.k = 20000 then (4, m)
  else goZ m t.toNat

/-- What holds of a machine. -/
structure WF (m : MZ) : Prop where
  ps : m.ps.length = m.ts.length
  n : m.ts.length ≤ 16
  right : ∀ p ∈ m.ps, rightZ p m.nc = true
  rg : ∀ x ∈ m.ts, x.rg.length = 8 ∧ ∀ v ∈ x.rg, 0 ≤ v ∧ v < 18446744073709551616
  pc : ∀ (t : Nat) (x : ThZ) (p : List InsZ), m.ts[t]? = some x → m.ps[t]? = some p → x.pc ≤ p.length ∧ (x.dn = false → x.pc < p.length)
  nc : m.ws.length = m.nc
  ws : m.ws.length ≤ 300 ∧ ∀ v ∈ m.ws, 0 ≤ v ∧ v < 18446744073709551616
  ss : (m.ss.map (·.t)).Nodup ∧ ∀ s ∈ m.ss, 0 ≤ s.t ∧ s.t < m.ts.length ∧ 0 ≤ s.c ∧ s.c < m.nc
  al : m.al.length ≤ m.k
  el : m.el.length ≤ m.k
  k : m.k ≤ 20000
  sl : m.ss.length ≤ m.k

/-- What is not said of a machine: which slices may be nil, and what lies behind who sleeps. -/
structure VZ where
  np : Bool
  na : Bool
  ne : Bool
  nm : Bool
  nl : Bool
  ex : List Slp

def okV (v : VZ) : Prop := v.ex ≠ [] → v.nl = true

abbrev machH (m : MZ) (v : VZ) : List PO :=
  [.one [.slc 1 0 m.ps.length none v.np, .slc 2 0 m.ps.length none true, .ptr 3 0, .ptr 5 0, .slc 7 0 m.al.length none v.na, .slc 8 0 m.el.length none v.ne, .f (.int .i64 m.k)],
   .rows2 false 5 (m.ps.map fun p => p.map rowIns), .rows false 10 (m.ts.map rowT), .one [.slc 4 0 m.nc none v.nm], .rows false 1 (m.ws.map rowU),
   .one [.f (.int .i64 m.ps.length), .slc 6 0 m.ss.length none v.nl], .rows false 2 ((m.ss ++ v.ex).map rowS), .rows false 6 (m.al.map rowAct), .rows false 4 (m.el.map rowEv)]

end Go.Mac
