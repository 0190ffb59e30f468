/- Texts that belong together; the first of them: The machine of threads: what it is, and what a step does, in plain terms. -/
import Derived.Test.YtlimhldkkbaohaaGreatDoorGBase
import Derived.Test.YtlimhldkkbaohaaGreatDoorQJudge
import Derived.Test.YtlimhldkkbaohaaGreatDoorGForm

/- The machine of threads: what it is, and what a step does, in plain terms. -/
section
open Go Go.Proofs Go.Mac
set_option maxRecDepth 100000
namespace Go.Mac

structure ThZ where
  pc : Nat
  rg : List Int
  dn : Bool

structure ActZ where
  w : Int
  t : Int
  o : Int
  c : Int
  x : Int
  y : Int

structure MZ where
  ps : List (List InsZ)
  ts : List ThZ
  ws : List Int
  ss : List Slp
  al : List ActZ
  el : List EvZ
  k : Nat
  nc : Nat

abbrev rowT (x : ThZ) : List FC := .int .i64 x.pc :: (x.rg.map (FC.int .u64) ++ [.bool x.dn])
abbrev rowAct (x : ActZ) : List FC := [.int .i64 x.w, .int .i64 x.t, .int .i64 x.o, .int .i64 x.c, .int .u64 x.x, .int .u64 x.y]

abbrev u64m (x : Int) : Int := IntKind.u64.wrap x
/-- So many bits from one on. -/
def bitsZ (r c d : Int) : Int := IntKind.u64.wrap ((BitVec.ofInt 64 (r.fdiv (2 ^ (min c.toNat 64))) &&& BitVec.ofInt 64 (IntKind.u64.wrap (IntKind.u64.wrap (1 * 2 ^ (min d.toNat 64)) - 1))).toNat)
def rgZ (r : List Int) (j : Int) : Int := r.getD j.toNat 0
def rgS (r : List Int) (j v : Int) : List Int := r.set j.toNat v

/-- An instruction that asks no cell. -/
def localZ (x : ThZ) (i : InsZ) : Option ThZ :=
  if i.op = 0 then some { x with dn := true }
  else if i.op = 1 then some { x with rg := rgS x.rg i.a (u64m i.b) }
  else if i.op = 2 then some { x with rg := rgS x.rg i.a (rgZ x.rg i.b) }
  else if i.op = 3 then some { x with rg := rgS x.rg i.a (u64m (rgZ x.rg i.b + u64m i.c)) }
  else if i.op = 4 then some { x with rg := rgS x.rg i.a (u64m (rgZ x.rg i.b + rgZ x.rg i.c)) }
  else if i.op = 5 then some { x with rg := rgS x.rg i.a (bitsZ (rgZ x.rg i.b) i.c i.d) }
  else if i.op = 10 then some { x with pc := i.a.toNat }
  else if i.op = 11 then some (if rgZ x.rg i.a = u64m i.b then { x with pc := i.c.toNat } else x)
  else if i.op = 12 then some (if rgZ x.rg i.a < rgZ x.rg i.b then { x with pc := i.c.toNat } else x)
  else if i.op = 13 then some (if rgZ x.rg i.a = rgZ x.rg i.b then { x with pc := i.c.toNat } else x)
  else none

def MZ.th (m : MZ) (t : Nat) (x : ThZ) : MZ := { m with ts := m.ts.set t x }
def MZ.act (m : MZ) (t o c x y : Int) : MZ := { m with al := m.al ++ [⟨m.k, t, o, c, x, y⟩] }

/-- Which cell an offset tells of; beyond all, if it is none. -/
def offZ (x : ThZ) (i : InsZ) : Option Int :=
  if i.c < 0 then some i.a else if 300 ≤ rgZ x.rg i.c then none else some (i.a + rgZ x.rg i.c)

/-- An instruction that asks a cell, or says something, of a thread whose place is told already. -/
def farZ (m : MZ) (t : Nat) (x : ThZ) (i : InsZ) : Option MZ :=
  if i.op = 6 then some ((m.th t { x with rg := rgS x.rg i.a (rgZ m.ws i.b) }).act t 6 i.b (rgZ m.ws i.b) (rgZ m.ws i.b))
  else if i.op = 8 then some ({ m.th t { x with rg := rgS x.rg i.a (rgZ m.ws i.b) } with ws := rgS m.ws i.b (u64m (rgZ m.ws i.b + u64m i.c)) }.act t 8 i.b (rgZ m.ws i.b) (u64m (rgZ m.ws i.b + u64m i.c)))
  else if i.op = 9 then
    if rgZ m.ws i.b = rgZ x.rg i.c then some ({ m.th t { x with rg := rgS x.rg i.a 1 } with ws := rgS m.ws i.b (rgZ x.rg i.d) }.act t 9 i.b (rgZ m.ws i.b) (rgZ x.rg i.d))
    else some ((m.th t { x with rg := rgS x.rg i.a 0 }).act t 9 i.b (rgZ m.ws i.b) (rgZ m.ws i.b))
  else if i.op = 14 then some (if rgZ m.ws i.a = rgZ x.rg i.b then { m with ss := m.ss ++ [⟨t, i.a⟩] } else m)
  else if i.op = 16 then some { m with el := m.el ++ [⟨m.k, i.a, t, IntKind.i64.wrap (rgZ x.rg i.b)⟩] }
  else match offZ x i with
    | none => none
    | some c => if c < m.nc then
        if i.op = 15 then some { m with ss := (wakeL c i.b 0 m.ss).2 }
        else some ({ m with ws := rgS m.ws c (rgZ x.rg i.b) }.act t i.op c (rgZ m.ws c) (rgZ x.rg i.b))
      else none

def insZ (m : MZ) (t : Nat) (pc : Nat) : InsZ := ((m.ps.getD t []).getD pc ⟨0, 0, 0, 0, 0⟩)
def thZ (m : MZ) (t : Nat) : ThZ := m.ts.getD t ⟨0, [], true⟩

/-- A thread's place behind its next instruction; one step more. -/
def onZ (m : MZ) (t : Nat) : MZ := { m with k := m.k + 1 }.th t { thZ m t with pc := (thZ m t).pc + 1 }

/-- What an instruction of a thread, whose place is told, does; 13: it asks for a cell that is none. -/
def doZ (m : MZ) (t : Nat) (x : ThZ) (i : InsZ) : Int × MZ :=
  match localZ x i with
  | some x' => (0, m.th t x')
  | none =>
    match farZ m t x i with
    | some m' => (0, m')
    | none => (13, m.th t { x with dn := true })

/-- What a thread's next instruction does. -/
def goZ (m : MZ) (t : Nat) : Int × MZ := doZ (onZ m t) t { thZ m t with pc := (thZ m t).pc + 1 } (insZ m t (thZ m t).pc)

def asleepZ (m : MZ) (t : Int) : Bool := m.ss.any fun s => s.t == t

/-- A step: what is wrong, and the machine behind it. -/
def stepZ (m : MZ) (t : Int) : Int × MZ :=
  if t < 0 ∨ (m.ts.length : Int) ≤ t then (2, m)
  else if (thZ m t.toNat).dn then (6, m)
  else if asleepZ m t then (8, m)
  else if m.k = 20000 then (4, m)
  else goZ m t.toNat

/-- What holds of a machine. -/
structure WF (m : MZ) : Prop where
  ps : m.ps.length = m.ts.length
  n : m.ts.length ≤ 16
  right : ∀ p ∈ m.ps, rightZ p m.nc = true
  rg : ∀ x ∈ m.ts, x.rg.length = 8 ∧ ∀ v ∈ x.rg, 0 ≤ v ∧ v < 18446744073709551616
  pc : ∀ (t : Nat) (x : ThZ) (p : List InsZ), m.ts[t]? = some x → m.ps[t]? = some p → x.pc ≤ p.length ∧ (x.dn = false → x.pc < p.length)
  nc : m.ws.length = m.nc
  ws : m.ws.length ≤ 300 ∧ ∀ v ∈ m.ws, 0 ≤ v ∧ v < 18446744073709551616
  ss : (m.ss.map (·.t)).Nodup ∧ ∀ s ∈ m.ss, 0 ≤ s.t ∧ s.t < m.ts.length ∧ 0 ≤ s.c ∧ s.c < m.nc
  al : m.al.length ≤ m.k
  el : m.el.length ≤ m.k
  k : m.k ≤ 20000
  sl : m.ss.length ≤ m.k

/-- What is not said of a machine: which slices may be nil, and what lies behind who sleeps. -/
structure VZ where
  np : Bool
  na : Bool
  ne : Bool
  nm : Bool
  nl : Bool
  ex : List Slp

def okV (v : VZ) : Prop := v.ex ≠ [] → v.nl = true

abbrev machH (m : MZ) (v : VZ) : List PO :=
  [.one [.slc 1 0 m.ps.length none v.np, .slc 2 0 m.ps.length none true, .ptr 3 0, .ptr 5 0, .slc 7 0 m.al.length none v.na, .slc 8 0 m.el.length none v.ne, .f (.int .i64 m.k)],
   .rows2 false 5 (m.ps.map fun p => p.map rowIns), .rows false 10 (m.ts.map rowT), .one [.slc 4 0 m.nc none v.nm], .rows false 1 (m.ws.map rowU),
   .one [.f (.int .i64 m.ps.length), .slc 6 0 m.ss.length none v.nl], .rows false 2 ((m.ss ++ v.ex).map rowS), .rows false 6 (m.al.map rowAct), .rows false 4 (m.el.map rowEv)]

end Go.Mac
end

/- The machine of threads: its inner functions walked. -/
section
open Go Go.Proofs Go.Mac
set_option maxRecDepth 100000
namespace Go.Mac

theorem setsK_one {row : List FC} {f : Nat} {y : FC} {k : List FC → Prop} (hf : f < row.length) (h : k (row.set f y)) : setsK row f [y] k := by
  induction row generalizing f k with
  | nil => simp at hf
  | cons x xs ih =>
    cases f with
    | zero => cases xs <;> exact h
    | succ f => exact ih (k := fun l => k (x :: l)) (by simpa using hf) h

theorem wrF {rs : List (List FC)} {i f s : Nat} {K : List FC → Prop} (row : List FC) (y : FC) (h1 : rs[i]? = some row) (hs : s = 1) (hf : f < row.length) (h : K (row.set f y)) :
    ∃ row, rs[i]? = some row ∧ (bif Nat.ble (f + s) row.length then setsK row f [y] K else False) := by
  refine ⟨row, h1, ?_⟩
  subst hs
  rw [show Nat.ble (f + 1) row.length = true from Nat.ble_eq_true_of_le hf]
  exact setsK_one hf h

theorem rowT_len {x : ThZ} (hr : x.rg.length = 8) : (rowT x).length = 10 := by simp [hr]

theorem rowT_reg {x : ThZ} (hr : x.rg.length = 8) {b : Int} {f : Nat} (hb : 0 ≤ b ∧ b < 8) (hf : f = 1 + b.toNat) : (rowT x)[f]? = some (.int .u64 (rgZ x.rg b)) := by
  subst hf
  rw [show 1 + b.toNat = b.toNat + 1 by omega, rowT, List.getElem?_cons_succ, List.getElem?_append_left (by simp; omega), List.getElem?_map, List.getElem?_eq_getElem (by omega), rgZ, List.getD_eq_getElem?_getD, List.getElem?_eq_getElem (by omega)]
  rfl

theorem ts_get {ts : List ThZ} {t : Nat} {x : ThZ} (h : ts[t]? = some x) : (ts.map rowT)[t]? = some (rowT x) := by simp [h]

theorem regs_set {ts : List ThZ} {t f : Nat} {x : ThZ} {a w : Int} (hr : x.rg.length = 8) (ha : 0 ≤ a ∧ a < 8) (hf : f = 1 + a.toNat) :
    (ts.map rowT).set t ((rowT x).set f (.int .u64 w)) = (ts.set t { x with rg := rgS x.rg a w }).map rowT := by
  subst hf
  rw [List.map_set]
  congr 1
  rw [show 1 + a.toNat = a.toNat + 1 by omega, rowT, List.set_cons_succ, List.set_append_left _ _ (by simp; omega)]
  simp [rgS, List.map_set]

theorem pc_set {ts : List ThZ} {t f : Nat} {x : ThZ} {w : Nat} {wi : Int} (hw : wi = w) (hf : f = 0) : (ts.map rowT).set t ((rowT x).set f (.int .i64 wi)) = (ts.set t { x with pc := w }).map rowT := by
  subst hf
  subst hw
  rw [List.map_set]
  rfl

theorem dn_set {ts : List ThZ} {t f : Nat} {x : ThZ} {b : Bool} (hr : x.rg.length = 8) (hf : f = 9) : (ts.map rowT).set t ((rowT x).set f (.bool b)) = (ts.set t { x with dn := b }).map rowT := by
  subst hf
  rw [List.map_set]
  congr 1
  rw [rowT, List.set_cons_succ, List.set_append_right _ _ (by simp [hr])]
  simp [hr]

section
variable {K : AV → List Nat → List PO → Prop} {m : MZ} {v : VZ}

theorem coreAct (t o c x y : Int) (hk : m.al.length < 1000000) (h : K (.tup []) [7] (machH (m.act t o c x y) v)) :
    Does Tryz.prog 69 [cv (.ptr 0 0), i64 t, i64 o, i64 c, u64 x, u64 y] (machH m v) K := by
  refine does Tryz.func69 rfl (by decide) ?_
  refine SS.drawR follows (by decide) ?_
  repeat' (first | refine And.intro rfl ?_ | fail)
  refine And.intro (by simp) (Or.inl (And.intro rfl (And.intro (by simp) (And.intro ?_ (And.intro ?_ ?_)))))
  · show (m.al.length + 1) * 48 ≤ _
    omega
  · show m.al.length + 1 ≤ _
    omega
  repeat' (first | refine And.intro rfl ?_ | fail)
  dsimp only [machH, MZ.act] at h
  rw [List.length_append, List.map_append (f := rowAct)] at h
  exact h

theorem set_same {ts : List ThZ} {t : Nat} {x : ThZ} (h : ts[t]? = some x) : ts.set t x = ts := by
  refine List.ext_getElem? fun j => ?_
  by_cases hj : t = j
  · subst hj
    rw [List.getElem?_set_self (List.getElem?_eq_some_iff.1 h).1, h]
  · rw [List.getElem?_set_ne hj]

theorem okI_cut {cells size op a b c d : Int} (h : okI cells size ⟨op, a, b, c, d⟩ = true) : (0 ≤ op ∧ op < 17) ∧ fitsZ (fo op 0) a cells size = true ∧ fitsZ (fo op 1) b cells size = true ∧ fitsZ (fo op 2) c cells size = true ∧ fitsZ (fo op 3) d cells size = true := by
  simpa [okI, and_assoc] using h

theorem fit1 {x cells size : Int} (h : fitsZ 1 x cells size = true) : 0 ≤ x ∧ x < 8 := by simpa [fitsZ] using h
theorem fit2 {x cells size : Int} (h : fitsZ 2 x cells size = true) : 0 ≤ x ∧ x < cells := by simpa [fitsZ] using h
theorem fit4 {x cells size : Int} (h : fitsZ 4 x cells size = true) : 0 ≤ x ∧ x < size := by simpa [fitsZ] using h
theorem fit5 {x cells size : Int} (h : fitsZ 5 x cells size = true) : -1 ≤ x ∧ x < 8 := by simpa [fitsZ] using h
theorem fit6 {x cells size : Int} (h : fitsZ 6 x cells size = true) : 0 ≤ x ∧ x ≤ 63 := by simpa [fitsZ] using h
theorem fit7 {x cells size : Int} (h : fitsZ 7 x cells size = true) : 1 ≤ x ∧ x ≤ 63 := by simpa [fitsZ] using h

theorem coreLocal (t : Nat) (x : ThZ) (op a b c d : Int) {cells size : Int} (hx : m.ts[t]? = some x) (hr : x.rg.length = 8) (hi : okI cells size ⟨op, a, b, c, d⟩ = true)
    (h1 : ∀ x', localZ x ⟨op, a, b, c, d⟩ = some x' → K (bl true) [] (machH (m.th t x') v)) (h0 : localZ x ⟨op, a, b, c, d⟩ = none → K (bl false) [] (machH m v)) :
    Does Tryz.prog 41 [cv (.ptr 0 0), cv (.rptr 2 t 0), .p (.agg [.f (.int .i64 op), .f (.int .i64 a), .f (.int .i64 b), .f (.int .i64 c), .f (.int .i64 d)])] (machH m v) K := by
  have hg := ts_get hx
  obtain ⟨_, f0, f1, f2, f3⟩ := okI_cut hi
  have h1' : ∀ (x' : ThZ), localZ x ⟨op, a, b, c, d⟩ = some x' → ∀ R, R = (m.ts.set t x').map rowT → K (bl true) [] [.one [.slc 1 0 m.ps.length none v.np, .slc 2 0 m.ps.length none true, .ptr 3 0, .ptr 5 0, .slc 7 0 m.al.length none v.na, .slc 8 0 m.el.length none v.ne, .f (.int .i64 m.k)],
   .rows2 false 5 (m.ps.map fun p => p.map rowIns), .rows false 10 R, .one [.slc 4 0 m.nc none v.nm], .rows false 1 (m.ws.map rowU),
   .one [.f (.int .i64 m.ps.length), .slc 6 0 m.ss.length none v.nl], .rows false 2 ((m.ss ++ v.ex).map rowS), .rows false 6 (m.al.map rowAct), .rows false 4 (m.el.map rowEv)] := fun x' hx' R hR => by
    subst hR
    have := h1 x' hx'
    dsimp only [machH, MZ.th] at this
    exact this
  refine does Tryz.func41 rfl (by decide) ?_
  refine brc_intro (fun ho => ?_) (fun o0 => ?_)
  · obtain rfl : op = 0 := by simpa using ho
    refine wrF (rowT x) (.bool true) hg rfl (by rw [rowT_len hr]; decide) ?_
    refine h1' _ rfl _ (dn_set hr rfl)
  refine brc_intro (fun ho => ?_) (fun o1 => ?_)
  · obtain rfl : op = 1 := by simpa using ho
    have ha := fit1 f0
    refine SS.drawR follows (by decide) ?_
    refine at2 (by omega) (by omega) (wrF (rowT x) (.int .u64 (u64m b)) hg rfl (by rw [rowT_len hr]; show 0 + 1 + a.toNat * 1 < 10; omega) ?_)
    repeat' (first | refine And.intro rfl ?_ | refine And.intro (And.intro (by omega) (And.intro (by omega) rfl)) ?_ | fail)
    refine h1' _ rfl _ (regs_set (a := a) hr ha (show 0 + 1 + a.toNat * 1 = _ by omega))
  refine brc_intro (fun ho => ?_) (fun o2 => ?_)
  · obtain rfl : op = 2 := by simpa using ho
    have ha := fit1 f0
    have hb := fit1 f1
    refine SS.drawR follows (by decide) ?_
    refine at2 (a := (0 : Int) ≤ b) (b := b < (8 : Nat)) (by omega) (by omega) (rd1 (rowT x) (.int .u64 (rgZ x.rg b)) hg (rowT_reg hr hb (show 0 + 1 + b.toNat * 1 = _ by omega)) ?_)
    refine at2 (a := (0 : Int) ≤ a) (b := a < (8 : Nat)) (by omega) (by omega) (wrF (rowT x) (.int .u64 (rgZ x.rg b)) hg rfl (by rw [rowT_len hr]; show 0 + 1 + a.toNat * 1 < 10; omega) ?_)
    repeat' (first | refine And.intro rfl ?_ | refine And.intro (And.intro (by omega) (And.intro (by omega) rfl)) ?_ | fail)
    refine h1' _ rfl _ (regs_set (a := a) hr ha (show 0 + 1 + a.toNat * 1 = _ by omega))
  refine brc_intro (fun ho => ?_) (fun o3 => ?_)
  · obtain rfl : op = 3 := by simpa using ho
    have ha := fit1 f0
    have hb := fit1 f1
    refine SS.drawR follows (by decide) ?_
    refine at2 (a := (0 : Int) ≤ b) (b := b < (8 : Nat)) (by omega) (by omega) (rd1 (rowT x) (.int .u64 (rgZ x.rg b)) hg (rowT_reg hr hb (show 0 + 1 + b.toNat * 1 = _ by omega)) ?_)
    refine at2 (a := (0 : Int) ≤ a) (b := a < (8 : Nat)) (by omega) (by omega) (wrF (rowT x) (.int .u64 (u64m (rgZ x.rg b + u64m c))) hg rfl (by rw [rowT_len hr]; show 0 + 1 + a.toNat * 1 < 10; omega) ?_)
    repeat' (first | refine And.intro rfl ?_ | refine And.intro (And.intro (by omega) (And.intro (by omega) rfl)) ?_ | fail)
    refine h1' _ rfl _ (regs_set (a := a) hr ha (show 0 + 1 + a.toNat * 1 = _ by omega))
  refine brc_intro (fun ho => ?_) (fun o4 => ?_)
  · obtain rfl : op = 4 := by simpa using ho
    have ha := fit1 f0
    have hb := fit1 f1
    have hc := fit1 f2
    refine SS.drawR follows (by decide) ?_
    refine at2 (a := (0 : Int) ≤ b) (b := b < (8 : Nat)) (by omega) (by omega) (rd1 (rowT x) (.int .u64 (rgZ x.rg b)) hg (rowT_reg hr hb (show 0 + 1 + b.toNat * 1 = _ by omega)) ?_)
    refine at2 (a := (0 : Int) ≤ c) (b := c < (8 : Nat)) (by omega) (by omega) (rd1 (rowT x) (.int .u64 (rgZ x.rg c)) hg (rowT_reg hr hc (show 0 + 1 + c.toNat * 1 = _ by omega)) ?_)
    refine at2 (a := (0 : Int) ≤ a) (b := a < (8 : Nat)) (by omega) (by omega) (wrF (rowT x) (.int .u64 (u64m (rgZ x.rg b + rgZ x.rg c))) hg rfl (by rw [rowT_len hr]; show 0 + 1 + a.toNat * 1 < 10; omega) ?_)
    repeat' (first | refine And.intro rfl ?_ | refine And.intro (And.intro (by omega) (And.intro (by omega) rfl)) ?_ | fail)
    refine h1' _ rfl _ (regs_set (a := a) hr ha (show 0 + 1 + a.toNat * 1 = _ by omega))
  refine brc_intro (fun ho => ?_) (fun o5 => ?_)
  · obtain rfl : op = 5 := by simpa using ho
    have ha := fit1 f0
    have hb := fit1 f1
    have hc := fit6 f2
    have hd := fit7 f3
    refine SS.drawR follows (by decide) ?_
    refine at2 (a := (0 : Int) ≤ b) (b := b < (8 : Nat)) (by omega) (by omega) (rd1 (rowT x) (.int .u64 (rgZ x.rg b)) hg (rowT_reg hr hb (show 0 + 1 + b.toNat * 1 = _ by omega)) ?_)
    refine nonneg_intro hc.1 (nonneg_intro (by omega) ?_)
    refine at2 (a := (0 : Int) ≤ a) (b := a < (8 : Nat)) (by omega) (by omega) (wrF (rowT x) (.int .u64 (bitsZ (rgZ x.rg b) c d)) hg rfl (by rw [rowT_len hr]; show 0 + 1 + a.toNat * 1 < 10; omega) ?_)
    repeat' (first | refine And.intro rfl ?_ | refine And.intro (And.intro (by omega) (And.intro (by omega) rfl)) ?_ | fail)
    refine h1' _ rfl _ (regs_set (a := a) hr ha (show 0 + 1 + a.toNat * 1 = _ by omega))
  refine brc_intro (fun ho => ?_) (fun o10 => ?_)
  · obtain rfl : op = 10 := by simpa using ho
    have ha := fit4 f0
    refine brc_intro (fun _ => ?_) (fun h => absurd (of_decide_eq_false h) (by omega))
    refine wrF (rowT x) (.int .i64 a) hg rfl (by rw [rowT_len hr]; decide) ?_
    refine h1' _ rfl _ (pc_set (w := a.toNat) (wi := a) (by omega) rfl)
  refine brc_intro (fun ho => ?_) (fun o11 => ?_)
  · obtain rfl : op = 11 := by simpa using ho
    have ha := fit1 f0
    have hc := fit4 f2
    refine SS.drawR follows (by decide) ?_
    refine at2 (a := (0 : Int) ≤ a) (b := a < (8 : Nat)) (by omega) (by omega) (rd1 (rowT x) (.int .u64 (rgZ x.rg a)) hg (rowT_reg hr ha (show 0 + 1 + a.toNat * 1 = _ by omega)) ?_)
    refine brc_intro (fun h => ?_) (fun h => ?_)
    · refine brc_intro (fun _ => ?_) (fun h => absurd (of_decide_eq_false h) (by omega))
      refine wrF (rowT x) (.int .i64 c) hg rfl (by rw [rowT_len hr]; decide) ?_
      refine h1' _ (congrArg some (if_pos (beq_iff_eq.1 h))) _ (pc_set (w := c.toNat) (wi := c) (by omega) rfl)
    · refine h1' _ (congrArg some (if_neg (fun e => by rw [beq_eq_false_iff_ne] at h; exact h e))) _ (by rw [set_same hx])
  refine brc_intro (fun ho => ?_) (fun o12 => ?_)
  · obtain rfl : op = 12 := by simpa using ho
    have ha := fit1 f0
    have hb := fit1 f1
    have hc := fit4 f2
    refine SS.drawR follows (by decide) ?_
    refine at2 (a := (0 : Int) ≤ a) (b := a < (8 : Nat)) (by omega) (by omega) (rd1 (rowT x) (.int .u64 (rgZ x.rg a)) hg (rowT_reg hr ha (show 0 + 1 + a.toNat * 1 = _ by omega)) ?_)
    refine at2 (a := (0 : Int) ≤ b) (b := b < (8 : Nat)) (by omega) (by omega) (rd1 (rowT x) (.int .u64 (rgZ x.rg b)) hg (rowT_reg hr hb (show 0 + 1 + b.toNat * 1 = _ by omega)) ?_)
    refine brc_intro (fun h => ?_) (fun h => ?_)
    · refine brc_intro (fun _ => ?_) (fun h => absurd (of_decide_eq_false h) (by omega))
      refine wrF (rowT x) (.int .i64 c) hg rfl (by rw [rowT_len hr]; decide) ?_
      refine h1' _ (congrArg some (if_pos (of_decide_eq_true h))) _ (pc_set (w := c.toNat) (wi := c) (by omega) rfl)
    · refine h1' _ (congrArg some (if_neg (of_decide_eq_false h))) _ (by rw [set_same hx])
  refine brc_intro (fun ho => ?_) (fun o13 => ?_)
  · obtain rfl : op = 13 := by simpa using ho
    have ha := fit1 f0
    have hb := fit1 f1
    have hc := fit4 f2
    refine SS.drawR follows (by decide) ?_
    refine at2 (a := (0 : Int) ≤ a) (b := a < (8 : Nat)) (by omega) (by omega) (rd1 (rowT x) (.int .u64 (rgZ x.rg a)) hg (rowT_reg hr ha (show 0 + 1 + a.toNat * 1 = _ by omega)) ?_)
    refine at2 (a := (0 : Int) ≤ b) (b := b < (8 : Nat)) (by omega) (by omega) (rd1 (rowT x) (.int .u64 (rgZ x.rg b)) hg (rowT_reg hr hb (show 0 + 1 + b.toNat * 1 = _ by omega)) ?_)
    refine brc_intro (fun h => ?_) (fun h => ?_)
    · refine brc_intro (fun _ => ?_) (fun h => absurd (of_decide_eq_false h) (by omega))
      refine wrF (rowT x) (.int .i64 c) hg rfl (by rw [rowT_len hr]; decide) ?_
      refine h1' _ (congrArg some (if_pos (beq_iff_eq.1 h))) _ (pc_set (w := c.toNat) (wi := c) (by omega) rfl)
    · refine h1' _ (congrArg some (if_neg (fun e => by rw [beq_eq_false_iff_ne] at h; exact h e))) _ (by rw [set_same hx])
  refine h0 ?_
  simp only [beq_eq_false_iff_ne] at o0 o1 o2 o3 o4 o5 o10 o11 o12 o13
  simp [localZ, *]

end
end Go.Mac
end
