/- Threads that lock and unlock: what holds of the machine, whoever goes on when. -/
import Derived.Test.YtfgmlilpojnnhaaDoorQSys
open Go Go.Proofs Go.Mac
set_option maxRecDepth 100000
namespace Go.Mac

abbrev mutB : List InsZ := [⟨1, 5, 0, 0, 0⟩, ⟨1, 6, 1, 0, 0⟩, ⟨1, 4, 2, 0, 0⟩, ⟨9, 3, 0, 5, 6⟩, ⟨11, 3, 1, 14, 0⟩, ⟨6, 1, 0, 0, 0⟩, ⟨11, 1, 0, 12, 0⟩, ⟨11, 1, 2, 10, 0⟩, ⟨9, 3, 0, 6, 4⟩, ⟨11, 3, 0, 5, 0⟩, ⟨14, 0, 4, 0, 0⟩, ⟨10, 5, 0, 0, 0⟩,
  ⟨9, 3, 0, 5, 4⟩, ⟨11, 3, 0, 5, 0⟩, ⟨16, 3, 5, 0, 0⟩, ⟨1, 5, 0, 0, 0⟩, ⟨6, 1, 0, 0, 0⟩, ⟨9, 3, 0, 1, 5⟩, ⟨11, 3, 0, 16, 0⟩, ⟨11, 1, 2, 21, 0⟩, ⟨10, 22, 0, 0, 0⟩, ⟨15, 0, 1, -1, 0⟩, ⟨16, 3, 1, 0, 0⟩]

/-- What a thread has within its calls. -/
def mutOk (o : Nat) (r1 r3 r4 r5 r6 : Int) : Prop :=
  match o with
  | 0 => True
  | 1 => r5 = 0
  | 2 => r5 = 0 ∧ r6 = 1
  | 3 => r5 = 0 ∧ r6 = 1 ∧ r4 = 2
  | 4 => r5 = 0 ∧ r6 = 1 ∧ r4 = 2 ∧ (r3 = 0 ∨ r3 = 1)
  | 5 => r5 = 0 ∧ r6 = 1 ∧ r4 = 2
  | 6 => r5 = 0 ∧ r6 = 1 ∧ r4 = 2 ∧ (r1 = 0 ∨ r1 = 1 ∨ r1 = 2)
  | 7 => r5 = 0 ∧ r6 = 1 ∧ r4 = 2 ∧ (r1 = 1 ∨ r1 = 2)
  | 8 => r5 = 0 ∧ r6 = 1 ∧ r4 = 2 ∧ r1 = 1
  | 9 => r5 = 0 ∧ r6 = 1 ∧ r4 = 2 ∧ (r3 = 0 ∨ r3 = 1)
  | 10 => r5 = 0 ∧ r6 = 1 ∧ r4 = 2
  | 11 => r5 = 0 ∧ r6 = 1 ∧ r4 = 2
  | 12 => r5 = 0 ∧ r6 = 1 ∧ r4 = 2
  | 13 => r5 = 0 ∧ r6 = 1 ∧ r4 = 2 ∧ (r3 = 0 ∨ r3 = 1)
  | 14 => True
  | 15 => True
  | 16 => r5 = 0
  | 17 => r5 = 0 ∧ (r1 = 1 ∨ r1 = 2)
  | 18 => r5 = 0 ∧ (r1 = 1 ∨ r1 = 2) ∧ (r3 = 0 ∨ r3 = 1)
  | 19 => r1 = 1 ∨ r1 = 2
  | 20 => True
  | 21 => True
  | 22 => True
  | _ => False

/-- A thread that locks and unlocks c times. -/
def MutT (c : Nat) (x : ThZ) : Prop :=
  x.dn = true ∨ ∃ (j o : Nat) (a0 r1 a2 r3 r4 r5 r6 a7 : Int), x = ⟨23 * j + o, [a0, r1, a2, r3, r4, r5, r6, a7], false⟩ ∧ (j < c ∧ o < 23 ∧ mutOk o r1 r3 r4 r5 r6 ∨ j = c ∧ o = 0)

/-- Has it the lock? -/
def mutH0 (o : Nat) (r3 : Int) : Bool :=
  match o with
  | 4 => r3 == 1
  | 13 => r3 == 1
  | 14 => true
  | 15 => true
  | 16 => true
  | 17 => true
  | 18 => r3 == 0
  | _ => false

def mutH (x : ThZ) : Bool := if x.dn = true then false else mutH0 (x.pc % 23) (rgZ x.rg 3)

/-- Does it, when it goes on, wake somebody, or say that somebody may wait? -/
def mutC0 (o : Nat) (r1 r3 : Int) : Bool :=
  match o with
  | 5 => true
  | 6 => true
  | 7 => true
  | 8 => true
  | 9 => true
  | 10 => true
  | 11 => true
  | 12 => true
  | 13 => r3 == 0
  | 18 => r3 == 1 && r1 == 2
  | 19 => r1 == 2
  | 21 => true
  | _ => false

def mutC (x : ThZ) : Bool := if x.dn = true then false else mutC0 (x.pc % 23) (rgZ x.rg 1) (rgZ x.rg 3)

/-- What is left to do within its calls, at most, and what it costs others. -/
def mutL (w : Int) (o : Nat) (r1 r3 : Int) : Nat :=
  match o with
  | 0 => 225
  | 1 => 224
  | 2 => 223
  | 3 => 222
  | 4 => if r3 = 1 then 5 else 221
  | 5 => if w = 0 then 219 else 220
  | 6 => if w = 2 then (if r1 = 2 then 219 else if r1 = 1 then 224 else 223) else if w = 1 then (if r1 = 1 then 219 else if r1 = 2 then 224 else 223) else if r1 = 0 then 218 else 223
  | 7 => if w = 2 then (if r1 = 2 then 218 else 223) else if w = 1 then (if r1 = 2 then 223 else 218) else 222
  | 8 => if w = 2 then 222 else if w = 1 then 217 else 221
  | 9 => if r3 = 1 then (if w = 2 then 218 else if w = 1 then 223 else 222) else if w = 0 then 220 else 221
  | 10 => if w = 2 then 217 else if w = 1 then 222 else 221
  | 11 => if w = 0 then 220 else 221
  | 12 => if w = 0 then 217 else 222
  | 13 => if r3 = 1 then 5 else if w = 0 then 220 else 221
  | 14 => 4
  | 15 => 3
  | 16 => 2
  | 17 => if r1 = w then 1 else 4
  | 18 => if r3 = 1 then 9 else 3
  | 19 => 8
  | 20 => 2
  | 21 => 7
  | _ => 1

def mutR (w : Int) (c : Nat) (x : ThZ) : Nat :=
  if x.dn = true then 0 else if x.pc / 23 < c then 226 * (c - x.pc / 23 - 1) + mutL w (x.pc % 23) (rgZ x.rg 1) (rgZ x.rg 3) + 1 else 1

def heldN (w : Int) : Nat := if w = 1 then 144 else if w = 2 then 72 else 0

/-- How often a thread said something. -/
def mutE (c : Nat) (x : ThZ) : Nat := if x.dn = true then 2 * c else 2 * (x.pc / 23) + if 15 ≤ x.pc % 23 then 1 else 0

/-- Who has it, by what was done to the cell: -1: nobody; none: it is wrong. -/
def holdS (h : Option Int) (a : ActZ) : Option Int :=
  match h with
  | none => none
  | some h => if a.o ≠ 9 ∨ a.x = a.y then some h else if a.x = 0 then (if 0 ≤ h then none else some a.t) else if a.y = 0 then (if h = a.t then some (-1) else none) else if a.x = 1 ∧ a.y = 2 ∧ h ≠ a.t then some h else none

def holdZ (l : List ActZ) : Option Int := l.foldl holdS (some (-1))

theorem holdZ_snoc (l : List ActZ) (a : ActZ) : holdZ (l ++ [a]) = holdS (holdZ l) a := by
  rw [holdZ, List.foldl_append]; rfl

structure MutJ (B n c : Nat) (w : Int) (t0 : Nat) (m : MZ) : Prop where
  wf : WF m
  ps : m.ps = List.replicate n (repP mutB c)
  hn : n ≤ 8
  ws : m.ws = [w]
  hw : w = 0 ∨ w = 1 ∨ w = 2
  th : ∀ (t : Nat) (x : ThZ), m.ts[t]? = some x → MutT c x
  sl : ∀ s ∈ m.ss, s.c = 0 ∧ ∀ x, m.ts[s.t.toNat]? = some x → x.pc % 23 = 11 ∧ x.dn = false
  ho : ∀ (t : Nat) (x : ThZ), m.ts[t]? = some x → mutH x = decide (w ≠ 0 ∧ t = t0)
  tl : w ≠ 0 → t0 < m.ts.length
  jn : m.ss ≠ [] → w = 2 ∨ ∃ (t : Nat) (x : ThZ), m.ts[t]? = some x ∧ mutC x = true ∧ noT m.ss t
  fo : holdZ m.al = some (if w = 0 then -1 else (t0 : Int))
  el : m.el.length = rsum m.ts.length fun t => mutE c (thZ m t)
  pot : m.k + (rsum m.ts.length (fun t => mutR w c (thZ m t)) + 5 * (m.ts.length - m.ss.length) + heldN w) ≤ B

theorem mutH_at {j o : Nat} (ho : o < 23) (rg : List Int) : mutH ⟨23 * j + o, rg, false⟩ = mutH0 o (rgZ rg 3) := by
  rw [mutH]; dsimp only
  rw [show (23 * j + o) % 23 = o by omega]; rfl

theorem mutC_at {j o : Nat} (ho : o < 23) (rg : List Int) : mutC ⟨23 * j + o, rg, false⟩ = mutC0 o (rgZ rg 1) (rgZ rg 3) := by
  rw [mutC]; dsimp only
  rw [show (23 * j + o) % 23 = o by omega]; rfl

theorem mutR_at {w : Int} {c j o : Nat} (hj : j < c) (ho : o < 23) (rg : List Int) : mutR w c ⟨23 * j + o, rg, false⟩ = 226 * (c - j - 1) + mutL w o (rgZ rg 1) (rgZ rg 3) + 1 := by
  rw [mutR]; dsimp only
  rw [show (23 * j + o) % 23 = o by omega, show (23 * j + o) / 23 = j by omega, if_neg (by decide), if_pos hj]

theorem mutE_at {c j o : Nat} (ho : o < 23) (rg : List Int) : mutE c ⟨23 * j + o, rg, false⟩ = 2 * j + if 15 ≤ o then 1 else 0 := by
  rw [mutE]; dsimp only
  rw [show (23 * j + o) % 23 = o by omega, show (23 * j + o) / 23 = j by omega, if_neg (by decide)]

theorem mutR_next {w : Int} {c j : Nat} (_hj : j < c) (rg : List Int) : mutR w c ⟨23 * j + 23, rg, false⟩ ≤ 226 * (c - j - 1) + 1 := by
  rw [mutR]; dsimp only
  rw [show (23 * j + 23) % 23 = 0 by omega, show (23 * j + 23) / 23 = j + 1 by omega, if_neg (by decide)]
  split
  · show 226 * (c - (j + 1) - 1) + 225 + 1 ≤ _
    omega
  · omega

theorem mutL_mono (w w' : Int) (o : Nat) (r1 r3 : Int) : mutL w' o r1 r3 ≤ mutL w o r1 r3 + 8 := by
  unfold mutL
  split <;> (repeat' split) <;> omega

theorem mutR_mono {w w' : Int} {d : Nat} (h : w' = w ∨ d = 8) (c : Nat) (x : ThZ) : mutR w' c x ≤ mutR w c x + d := by
  rcases h with rfl | rfl
  · omega
  · unfold mutR
    have := mutL_mono w w' (x.pc % 23) (rgZ x.rg 1) (rgZ x.rg 3)
    split
    · omega
    · split <;> omega

theorem rsum_add (n d : Nat) (g : Nat → Nat) : rsum n (fun s => g s + d) = rsum n g + n * d := by
  induction n with
  | zero => simp [rsum]
  | succ n ih => rw [rsum_succ, rsum_succ, ih, Nat.succ_mul]; omega

theorem set2 {ps : List (List InsZ)} {ts : List ThZ} {t : Nat} {a b : ThZ} {ws : List Int} {ss : List Slp} {al : List ActZ} {el : List EvZ} {k nc : Nat} :
    MZ.mk ps ((ts.set t a).set t b) ws ss al el k nc = MZ.mk ps (ts.set t b) ws ss al el k nc := by rw [List.set_set]

theorem mut_upd {B n c : Nat} {w : Int} {t0 : Nat} {m : MZ} (h : MutJ B n c w t0 m) {t : Nat} {x : ThZ} (hx : m.ts[t]? = some x) (hno : noT m.ss t)
    {x' : ThZ} {w' : Int} {t0' d : Nat} {ss' : List Slp} {al' : List ActZ} {el' : List EvZ} (e : (stepZ m t).2 = ⟨m.ps, m.ts.set t x', [w'], ss', al', el', m.k + 1, m.nc⟩)
    (hd : w' = w ∧ d = 0 ∨ d = 8) (hw' : w' = 0 ∨ w' = 1 ∨ w' = 2) (hT : MutT c x') (hH : mutH x' = decide (w' ≠ 0 ∧ t = t0')) (hq : ∀ s, s ≠ t → (w ≠ 0 ∧ s = t0 ↔ w' ≠ 0 ∧ s = t0')) (ht0 : w' ≠ 0 → t0' < m.ts.length)
    (hss : ∀ s ∈ ss', s ∈ m.ss ∨ s = ⟨t, 0⟩ ∧ x'.pc % 23 = 11 ∧ x'.dn = false)
    (hJ : ss' ≠ [] → w' = 2 ∨ mutC x' = true ∧ noT ss' t ∨ ∃ (s : Nat) (y : ThZ), s ≠ t ∧ m.ts[s]? = some y ∧ mutC y = true ∧ noT ss' s)
    (hfo : holdZ al' = some (if w' = 0 then -1 else (t0' : Int))) (hel : el'.length + mutE c x = m.el.length + mutE c x')
    (hp : mutR w' c x' + 5 * m.ss.length + heldN w' + 7 * d + 1 ≤ mutR w c x + 5 * ss'.length + heldN w) : MutJ B n c w' t0' (stepZ m t).2 := by
  have hlt := (List.getElem?_eq_some_iff.1 hx).1
  have hwf := h.wf.step t
  rw [e] at hwf ⊢
  have hln : (m.ts.set t x').length = m.ts.length := List.length_set
  have hnn : m.ts.length = n := by have := h.wf.ps; rw [h.ps, List.length_replicate] at this; exact this.symm
  have hn8 := h.hn
  have hth : ∀ s, s ≠ t → thZ ⟨m.ps, m.ts.set t x', [w'], ss', al', el', m.k + 1, m.nc⟩ s = thZ m s := fun s hne => by
    rw [thZ, thZ, List.getD_eq_getElem?_getD, List.getD_eq_getElem?_getD, List.getElem?_set_ne (fun h => hne h.symm)]
  have hthe : thZ ⟨m.ps, m.ts.set t x', [w'], ss', al', el', m.k + 1, m.nc⟩ t = x' := by
    rw [thZ, List.getD_eq_getElem?_getD, List.getElem?_set_self hlt]; rfl
  refine ⟨hwf, h.ps, h.hn, rfl, hw', fun s y hy => ?_, fun s hs => ?_, fun s y hy => ?_, fun hq0 => by rw [hln]; exact ht0 hq0, fun hne => ?_, hfo, ?_, ?_⟩
  · rcases ts_set hlt hy with ⟨rfl, rfl⟩ | ⟨hne, hy⟩
    · exact hT
    · exact h.th s y hy
  · rcases hss s hs with hs' | ⟨rfl, h1, h2⟩
    · obtain ⟨h1, h2⟩ := h.sl s hs'
      refine ⟨h1, fun y hy => ?_⟩
      rcases ts_set hlt hy with ⟨he, rfl⟩ | ⟨hne, hy⟩
      · exfalso
        have := h.wf.ss.2 s hs'
        exact hno s hs' (by omega)
      · exact h2 y hy
    · refine ⟨rfl, fun y hy => ?_⟩
      rcases ts_set hlt hy with ⟨he, rfl⟩ | ⟨hne, hy⟩
      · exact ⟨h1, h2⟩
      · exact absurd (Int.toNat_natCast t) hne
  · rcases ts_set hlt hy with ⟨rfl, rfl⟩ | ⟨hne, hy⟩
    · exact hH
    · rw [h.ho s y hy]; exact decide_eq_decide.2 (hq s hne)
  · rcases hJ hne with h1 | ⟨h1, h2⟩ | ⟨s, y, h1, h2, h3, h4⟩
    · exact .inl h1
    · exact .inr ⟨t, x', List.getElem?_set_self hlt, h1, h2⟩
    · exact .inr ⟨s, y, by show (m.ts.set t x')[s]? = some y; rw [List.getElem?_set_ne (fun h => h1 h.symm)]; exact h2, h3, h4⟩
  · have hE := h.el
    dsimp only
    rw [hln]
    have h1 := rsum_upd (n := m.ts.length) (t := t) (g := fun s => mutE c (thZ ⟨m.ps, m.ts.set t x', [w'], ss', al', el', m.k + 1, m.nc⟩ s)) (h := fun s => mutE c (thZ m s)) hlt fun s hs hne => by rw [hth s hne]; exact Nat.le_refl _
    have h2 := rsum_upd (n := m.ts.length) (t := t) (h := fun s => mutE c (thZ ⟨m.ps, m.ts.set t x', [w'], ss', al', el', m.k + 1, m.nc⟩ s)) (g := fun s => mutE c (thZ m s)) hlt fun s hs hne => by rw [hth s hne]; exact Nat.le_refl _
    rw [hthe, thZ_get hx] at h1 h2
    omega
  · have hpot := h.pot
    have hl1 := ss_len h.wf
    have hl2 := ss_len hwf
    dsimp only at hl2 ⊢
    rw [hln] at hl2 ⊢
    have hsum := rsum_upd (n := m.ts.length) (t := t) (g := fun s => mutR w' c (thZ ⟨m.ps, m.ts.set t x', [w'], ss', al', el', m.k + 1, m.nc⟩ s)) (h := fun s => mutR w c (thZ m s) + d) hlt fun s hs hne => by
      rw [hth s hne]
      exact mutR_mono (by omega) c (thZ m s)
    rw [hthe, thZ_get hx, rsum_add] at hsum
    have hnd : m.ts.length * d ≤ 8 * d := Nat.mul_le_mul_right _ (by omega)
    omega

theorem mut_same {B n c : Nat} {w : Int} {t0 : Nat} {m : MZ} (h : MutJ B n c w t0 m) {t : Nat} {x : ThZ} (hx : m.ts[t]? = some x) (hno : noT m.ss t)
    {x' : ThZ} {al' : List ActZ} {el' : List EvZ} (e : (stepZ m t).2 = ⟨m.ps, m.ts.set t x', m.ws, m.ss, al', el', m.k + 1, m.nc⟩) (hal : al' = m.al ∨ ∃ a : ActZ, (a.o ≠ 9 ∨ a.x = a.y) ∧ al' = m.al ++ [a])
    (hT : MutT c x') (hH : mutH x' = mutH x) (hC : mutC x' = true ∨ mutC x = false) (hel : el'.length + mutE c x = m.el.length + mutE c x') (hp : mutR w c x' + 1 ≤ mutR w c x) : MutJ B n c w t0 (stepZ m t).2 := by
  rw [h.ws] at e
  refine mut_upd h hx hno (d := 0) e (.inl ⟨rfl, rfl⟩) h.hw hT (hH.trans (h.ho t x hx)) (fun _ _ => Iff.rfl) h.tl (fun s hs => .inl hs) (fun hne => ?_) ?_ hel (by omega)
  · rcases h.jn hne with h1 | ⟨s, y, h1, h2, h3⟩
    · exact .inl h1
    · by_cases he : s = t
      · subst he
        rw [hx] at h1
        obtain rfl := Option.some.inj h1
        rcases hC with hC | hC
        · exact .inr (.inl ⟨hC, hno⟩)
        · rw [h2] at hC; cases hC
      · exact .inr (.inr ⟨s, y, he, h1, h2, h3⟩)
  · rcases hal with rfl | ⟨a, ha, rfl⟩
    · exact h.fo
    · rw [holdZ_snoc, h.fo, holdS, if_pos ha]

theorem wakeL_over (c n : Int) : ∀ (l : List Slp) (k : Nat), n ≤ (k : Int) → (wakeL c n k l).2 = l
  | [], _, _ => rfl
  | x :: xs, k, h => by
    rw [wakeL, if_neg (fun h' => by omega)]
    exact congrArg (x :: ·) (wakeL_over c n xs k h)

theorem mut_lt {a b b' : Nat} (h : b + 1 ≤ b') : a + b + 1 + 1 ≤ a + b' + 1 := by omega
theorem mut_lt2 {a b b' s s' u u' d : Nat} (h : b + s + u + d + 1 ≤ b' + s' + u') : a + b + 1 + s + u + d + 1 ≤ a + b' + 1 + s' + u' := by omega

theorem mut_step {B n c : Nat} {w : Int} {t0 : Nat} {m : MZ} (h : MutJ B n c w t0 m) {t : Nat} (hc : canZ m t = true) (hk : m.k < 20000) : ∃ (w' : Int) (t0' : Nat), MutJ B n c w' t0' (stepZ m t).2 := by
  obtain ⟨x, hx, hd, hno⟩ := can_out hc
  have hlt := (List.getElem?_eq_some_iff.1 hx).1
  have hnn : m.ts.length = n := by have := h.wf.ps; rw [h.ps, List.length_replicate] at this; exact this.symm
  have hp : m.ps[t]? = some (repP mutB c) := by rw [h.ps, List.getElem?_replicate, if_pos (by omega)]
  have hho := h.ho t x hx
  have hsl := ss_len h.wf
  have hn8 := h.hn
  have hw := h.hw
  have hfo := h.fo
  have hjn := h.jn
  obtain ⟨ps, ts, ws, ss, al, el, k, nc⟩ := m
  obtain rfl : ws = [w] := h.ws
  obtain rfl : 1 = nc := h.wf.nc
  dsimp only at hx hho hlt hp hno hk hsl hnn hfo hjn
  have jn2 : mutC x = false → w ≠ 2 → ss ≠ [] → ∃ (s : Nat) (y : ThZ), s ≠ t ∧ ts[s]? = some y ∧ mutC y = true ∧ noT ss s := fun hC hw2 hne => by
    rcases hjn hne with h1 | ⟨s, y, h1, h2, h3⟩
    · exact absurd h1 hw2
    · refine ⟨s, y, fun he => ?_, h1, h2, h3⟩
      subst he
      rw [hx] at h1
      obtain rfl := Option.some.inj h1
      rw [h2] at hC; cases hC
  rcases h.th t x hx with h1 | ⟨j, o, a0, r1, a2, r3, r4, r5, r6, a7, rfl, h3⟩
  · rw [hd] at h1; cases h1
  rcases h3 with ⟨hjc, ho, hok⟩ | ⟨rfl, rfl⟩
  · rcases (show o = 0 ∨ o = 1 ∨ o = 2 ∨ o = 3 ∨ o = 4 ∨ o = 5 ∨ o = 6 ∨ o = 7 ∨ o = 8 ∨ o = 9 ∨ o = 10 ∨ o = 11 ∨ o = 12 ∨ o = 13 ∨ o = 14 ∨ o = 15 ∨ o = 16 ∨ o = 17 ∨ o = 18 ∨ o = 19 ∨ o = 20 ∨ o = 21 ∨ o = 22 by omega) with rfl | rfl | rfl | rfl | rfl | rfl | rfl | rfl | rfl | rfl | rfl | rfl | rfl | rfl | rfl | rfl | rfl | rfl | rfl | rfl | rfl | rfl | rfl
    · have hi := repP_get mutB (j := j) (n := c) (o := 0) (by decide) hjc
      refine ⟨w, t0, mut_same h hx hno (x' := ⟨23 * j + 1, [a0, r1, a2, r3, r4, 0, r6, a7], false⟩) (al' := al) (el' := el) ((can_go hc hk hx hp hi).trans set2) (.inl rfl) (.inr ⟨j, 1, _, _, _, _, _, _, _, _, rfl, .inl ⟨hjc, by decide, rfl⟩⟩) (by rw [mutH_at (by decide), mutH_at (by decide)]; rfl) (.inr (by rw [mutC_at (by decide)]; rfl)) (by rw [mutE_at (by decide), mutE_at (by decide)]; rfl) ?_⟩
      rw [mutR_at hjc (by decide), mutR_at hjc (by decide)]
      exact mut_lt (Nat.le_of_ble_eq_true rfl)
    · have hi := repP_get mutB (j := j) (n := c) (o := 1) (by decide) hjc
      obtain rfl : r5 = 0 := hok
      refine ⟨w, t0, mut_same h hx hno (x' := ⟨23 * j + 2, [a0, r1, a2, r3, r4, 0, 1, a7], false⟩) (al' := al) (el' := el) ((can_go hc hk hx hp hi).trans set2) (.inl rfl) (.inr ⟨j, 2, _, _, _, _, _, _, _, _, rfl, .inl ⟨hjc, by decide, ⟨rfl, rfl⟩⟩⟩) (by rw [mutH_at (by decide), mutH_at (by decide)]; rfl) (.inr (by rw [mutC_at (by decide)]; rfl)) (by rw [mutE_at (by decide), mutE_at (by decide)]; rfl) ?_⟩
      rw [mutR_at hjc (by decide), mutR_at hjc (by decide)]
      exact mut_lt (Nat.le_of_ble_eq_true rfl)
    · have hi := repP_get mutB (j := j) (n := c) (o := 2) (by decide) hjc
      obtain ⟨rfl, rfl⟩ : r5 = 0 ∧ r6 = 1 := hok
      refine ⟨w, t0, mut_same h hx hno (x' := ⟨23 * j + 3, [a0, r1, a2, r3, 2, 0, 1, a7], false⟩) (al' := al) (el' := el) ((can_go hc hk hx hp hi).trans set2) (.inl rfl) (.inr ⟨j, 3, _, _, _, _, _, _, _, _, rfl, .inl ⟨hjc, by decide, ⟨rfl, rfl, rfl⟩⟩⟩) (by rw [mutH_at (by decide), mutH_at (by decide)]; rfl) (.inr (by rw [mutC_at (by decide)]; rfl)) (by rw [mutE_at (by decide), mutE_at (by decide)]; rfl) ?_⟩
      rw [mutR_at hjc (by decide), mutR_at hjc (by decide)]
      exact mut_lt (Nat.le_of_ble_eq_true rfl)
    · have hi := repP_get mutB (j := j) (n := c) (o := 3) (by decide) hjc
      obtain ⟨rfl, rfl, rfl⟩ : r5 = 0 ∧ r6 = 1 ∧ r4 = 2 := hok
      rcases hw with rfl | rfl | rfl
      · skip
        refine ⟨1, t, mut_upd h hx hno (x' := ⟨23 * j + 4, [a0, r1, a2, 1, 2, 0, 1, a7], false⟩) (w' := 1) (d := 8) (ss' := ss) (al' := al ++ [⟨(k + 1 : Nat), t, 9, 0, 0, 1⟩]) (el' := el) ((can_go hc hk hx hp hi).trans set2) (.inr rfl) (by decide) (.inr ⟨j, 4, _, _, _, _, _, _, _, _, rfl, .inl ⟨hjc, by decide, ⟨rfl, rfl, rfl, .inr rfl⟩⟩⟩) ?_ (fun s hs => ?_) ?_ (fun s hs => .inl hs) (fun hne => .inr (.inr (jn2 (by rw [mutC_at (by decide)]; rfl) (by decide) hne))) ?_ (by rw [mutE_at (by decide), mutE_at (by decide)]; rfl) ?_⟩
        · rw [mutH_at (by decide)]; exact (decide_eq_true ⟨by decide, rfl⟩).symm
        · exact ⟨fun h => absurd rfl h.1, fun h => absurd h.2 hs⟩
        · exact fun _ => hlt
        · rw [holdZ_snoc, hfo]; rfl
        · rw [mutR_at hjc (by decide), mutR_at hjc (by decide)]
          exact mut_lt2 (by show 5 + 5 * ss.length + 144 + 56 + 1 ≤ 222 + 5 * ss.length + 0; omega)
      · skip
        refine ⟨1, t0, mut_same h hx hno (x' := ⟨23 * j + 4, [a0, r1, a2, 0, 2, 0, 1, a7], false⟩) (al' := al ++ [⟨(k + 1 : Nat), t, 9, 0, 1, 1⟩]) (el' := el) ((can_go hc hk hx hp hi).trans set2) (.inr ⟨_, .inr rfl, rfl⟩) (.inr ⟨j, 4, _, _, _, _, _, _, _, _, rfl, .inl ⟨hjc, by decide, ⟨rfl, rfl, rfl, .inl rfl⟩⟩⟩) (by rw [mutH_at (by decide), mutH_at (by decide)]; rfl) (.inr (by rw [mutC_at (by decide)]; rfl)) (by rw [mutE_at (by decide), mutE_at (by decide)]; rfl) ?_⟩
        rw [mutR_at hjc (by decide), mutR_at hjc (by decide)]
        exact mut_lt (Nat.le_of_ble_eq_true rfl)
      · skip
        refine ⟨2, t0, mut_same h hx hno (x' := ⟨23 * j + 4, [a0, r1, a2, 0, 2, 0, 1, a7], false⟩) (al' := al ++ [⟨(k + 1 : Nat), t, 9, 0, 2, 2⟩]) (el' := el) ((can_go hc hk hx hp hi).trans set2) (.inr ⟨_, .inr rfl, rfl⟩) (.inr ⟨j, 4, _, _, _, _, _, _, _, _, rfl, .inl ⟨hjc, by decide, ⟨rfl, rfl, rfl, .inl rfl⟩⟩⟩) (by rw [mutH_at (by decide), mutH_at (by decide)]; rfl) (.inr (by rw [mutC_at (by decide)]; rfl)) (by rw [mutE_at (by decide), mutE_at (by decide)]; rfl) ?_⟩
        rw [mutR_at hjc (by decide), mutR_at hjc (by decide)]
        exact mut_lt (Nat.le_of_ble_eq_true rfl)
    · have hi := repP_get mutB (j := j) (n := c) (o := 4) (by decide) hjc
      obtain ⟨rfl, rfl, rfl, h3⟩ : r5 = 0 ∧ r6 = 1 ∧ r4 = 2 ∧ (r3 = 0 ∨ r3 = 1) := hok
      rcases h3 with rfl | rfl
      · skip
        rcases hw with rfl | rfl | rfl
        · skip
          refine ⟨0, t0, mut_same h hx hno (x' := ⟨23 * j + 5, [a0, r1, a2, 0, 2, 0, 1, a7], false⟩) (al' := al) (el' := el) ((can_go hc hk hx hp hi).trans set2) (.inl rfl) (.inr ⟨j, 5, _, _, _, _, _, _, _, _, rfl, .inl ⟨hjc, by decide, ⟨rfl, rfl, rfl⟩⟩⟩) (by rw [mutH_at (by decide), mutH_at (by decide)]; rfl) (.inl (by rw [mutC_at (by decide)]; rfl)) (by rw [mutE_at (by decide), mutE_at (by decide)]; rfl) ?_⟩
          rw [mutR_at hjc (by decide), mutR_at hjc (by decide)]
          exact mut_lt (Nat.le_of_ble_eq_true rfl)
        · skip
          refine ⟨1, t0, mut_same h hx hno (x' := ⟨23 * j + 5, [a0, r1, a2, 0, 2, 0, 1, a7], false⟩) (al' := al) (el' := el) ((can_go hc hk hx hp hi).trans set2) (.inl rfl) (.inr ⟨j, 5, _, _, _, _, _, _, _, _, rfl, .inl ⟨hjc, by decide, ⟨rfl, rfl, rfl⟩⟩⟩) (by rw [mutH_at (by decide), mutH_at (by decide)]; rfl) (.inl (by rw [mutC_at (by decide)]; rfl)) (by rw [mutE_at (by decide), mutE_at (by decide)]; rfl) ?_⟩
          rw [mutR_at hjc (by decide), mutR_at hjc (by decide)]
          exact mut_lt (Nat.le_of_ble_eq_true rfl)
        · skip
          refine ⟨2, t0, mut_same h hx hno (x' := ⟨23 * j + 5, [a0, r1, a2, 0, 2, 0, 1, a7], false⟩) (al' := al) (el' := el) ((can_go hc hk hx hp hi).trans set2) (.inl rfl) (.inr ⟨j, 5, _, _, _, _, _, _, _, _, rfl, .inl ⟨hjc, by decide, ⟨rfl, rfl, rfl⟩⟩⟩) (by rw [mutH_at (by decide), mutH_at (by decide)]; rfl) (.inl (by rw [mutC_at (by decide)]; rfl)) (by rw [mutE_at (by decide), mutE_at (by decide)]; rfl) ?_⟩
          rw [mutR_at hjc (by decide), mutR_at hjc (by decide)]
          exact mut_lt (Nat.le_of_ble_eq_true rfl)
      · skip
        refine ⟨w, t0, mut_same h hx hno (x' := ⟨23 * j + 14, [a0, r1, a2, 1, 2, 0, 1, a7], false⟩) (al' := al) (el' := el) ((can_go hc hk hx hp hi).trans set2) (.inl rfl) (.inr ⟨j, 14, _, _, _, _, _, _, _, _, rfl, .inl ⟨hjc, by decide, trivial⟩⟩) (by rw [mutH_at (by decide), mutH_at (by decide)]; rfl) (.inr (by rw [mutC_at (by decide)]; rfl)) (by rw [mutE_at (by decide), mutE_at (by decide)]; rfl) ?_⟩
        rw [mutR_at hjc (by decide), mutR_at hjc (by decide)]
        exact mut_lt (Nat.le_of_ble_eq_true rfl)
    · have hi := repP_get mutB (j := j) (n := c) (o := 5) (by decide) hjc
      obtain ⟨rfl, rfl, rfl⟩ : r5 = 0 ∧ r6 = 1 ∧ r4 = 2 := hok
      rcases hw with rfl | rfl | rfl
      · skip
        refine ⟨0, t0, mut_same h hx hno (x' := ⟨23 * j + 6, [a0, 0, a2, r3, 2, 0, 1, a7], false⟩) (al' := al ++ [⟨(k + 1 : Nat), t, 6, 0, 0, 0⟩]) (el' := el) ((can_go hc hk hx hp hi).trans set2) (.inr ⟨_, .inl (show (6 : Int) ≠ 9 by decide), rfl⟩) (.inr ⟨j, 6, _, _, _, _, _, _, _, _, rfl, .inl ⟨hjc, by decide, ⟨rfl, rfl, rfl, .inl rfl⟩⟩⟩) (by rw [mutH_at (by decide), mutH_at (by decide)]; rfl) (.inl (by rw [mutC_at (by decide)]; rfl)) (by rw [mutE_at (by decide), mutE_at (by decide)]; rfl) ?_⟩
        rw [mutR_at hjc (by decide), mutR_at hjc (by decide)]
        exact mut_lt (Nat.le_of_ble_eq_true rfl)
      · skip
        refine ⟨1, t0, mut_same h hx hno (x' := ⟨23 * j + 6, [a0, 1, a2, r3, 2, 0, 1, a7], false⟩) (al' := al ++ [⟨(k + 1 : Nat), t, 6, 0, 1, 1⟩]) (el' := el) ((can_go hc hk hx hp hi).trans set2) (.inr ⟨_, .inl (show (6 : Int) ≠ 9 by decide), rfl⟩) (.inr ⟨j, 6, _, _, _, _, _, _, _, _, rfl, .inl ⟨hjc, by decide, ⟨rfl, rfl, rfl, .inr (.inl rfl)⟩⟩⟩) (by rw [mutH_at (by decide), mutH_at (by decide)]; rfl) (.inl (by rw [mutC_at (by decide)]; rfl)) (by rw [mutE_at (by decide), mutE_at (by decide)]; rfl) ?_⟩
        rw [mutR_at hjc (by decide), mutR_at hjc (by decide)]
        exact mut_lt (Nat.le_of_ble_eq_true rfl)
      · skip
        refine ⟨2, t0, mut_same h hx hno (x' := ⟨23 * j + 6, [a0, 2, a2, r3, 2, 0, 1, a7], false⟩) (al' := al ++ [⟨(k + 1 : Nat), t, 6, 0, 2, 2⟩]) (el' := el) ((can_go hc hk hx hp hi).trans set2) (.inr ⟨_, .inl (show (6 : Int) ≠ 9 by decide), rfl⟩) (.inr ⟨j, 6, _, _, _, _, _, _, _, _, rfl, .inl ⟨hjc, by decide, ⟨rfl, rfl, rfl, .inr (.inr rfl)⟩⟩⟩) (by rw [mutH_at (by decide), mutH_at (by decide)]; rfl) (.inl (by rw [mutC_at (by decide)]; rfl)) (by rw [mutE_at (by decide), mutE_at (by decide)]; rfl) ?_⟩
        rw [mutR_at hjc (by decide), mutR_at hjc (by decide)]
        exact mut_lt (Nat.le_of_ble_eq_true rfl)
    · have hi := repP_get mutB (j := j) (n := c) (o := 6) (by decide) hjc
      obtain ⟨rfl, rfl, rfl, h1⟩ : r5 = 0 ∧ r6 = 1 ∧ r4 = 2 ∧ (r1 = 0 ∨ r1 = 1 ∨ r1 = 2) := hok
      rcases h1 with rfl | rfl | rfl
      · skip
        rcases hw with rfl | rfl | rfl
        · skip
          refine ⟨0, t0, mut_same h hx hno (x' := ⟨23 * j + 12, [a0, 0, a2, r3, 2, 0, 1, a7], false⟩) (al' := al) (el' := el) ((can_go hc hk hx hp hi).trans set2) (.inl rfl) (.inr ⟨j, 12, _, _, _, _, _, _, _, _, rfl, .inl ⟨hjc, by decide, ⟨rfl, rfl, rfl⟩⟩⟩) (by rw [mutH_at (by decide), mutH_at (by decide)]; rfl) (.inl (by rw [mutC_at (by decide)]; rfl)) (by rw [mutE_at (by decide), mutE_at (by decide)]; rfl) ?_⟩
          rw [mutR_at hjc (by decide), mutR_at hjc (by decide)]
          exact mut_lt (Nat.le_of_ble_eq_true rfl)
        · skip
          refine ⟨1, t0, mut_same h hx hno (x' := ⟨23 * j + 12, [a0, 0, a2, r3, 2, 0, 1, a7], false⟩) (al' := al) (el' := el) ((can_go hc hk hx hp hi).trans set2) (.inl rfl) (.inr ⟨j, 12, _, _, _, _, _, _, _, _, rfl, .inl ⟨hjc, by decide, ⟨rfl, rfl, rfl⟩⟩⟩) (by rw [mutH_at (by decide), mutH_at (by decide)]; rfl) (.inl (by rw [mutC_at (by decide)]; rfl)) (by rw [mutE_at (by decide), mutE_at (by decide)]; rfl) ?_⟩
          rw [mutR_at hjc (by decide), mutR_at hjc (by decide)]
          exact mut_lt (Nat.le_of_ble_eq_true rfl)
        · skip
          refine ⟨2, t0, mut_same h hx hno (x' := ⟨23 * j + 12, [a0, 0, a2, r3, 2, 0, 1, a7], false⟩) (al' := al) (el' := el) ((can_go hc hk hx hp hi).trans set2) (.inl rfl) (.inr ⟨j, 12, _, _, _, _, _, _, _, _, rfl, .inl ⟨hjc, by decide, ⟨rfl, rfl, rfl⟩⟩⟩) (by rw [mutH_at (by decide), mutH_at (by decide)]; rfl) (.inl (by rw [mutC_at (by decide)]; rfl)) (by rw [mutE_at (by decide), mutE_at (by decide)]; rfl) ?_⟩
          rw [mutR_at hjc (by decide), mutR_at hjc (by decide)]
          exact mut_lt (Nat.le_of_ble_eq_true rfl)
      · skip
        rcases hw with rfl | rfl | rfl
        · skip
          refine ⟨0, t0, mut_same h hx hno (x' := ⟨23 * j + 7, [a0, 1, a2, r3, 2, 0, 1, a7], false⟩) (al' := al) (el' := el) ((can_go hc hk hx hp hi).trans set2) (.inl rfl) (.inr ⟨j, 7, _, _, _, _, _, _, _, _, rfl, .inl ⟨hjc, by decide, ⟨rfl, rfl, rfl, .inl rfl⟩⟩⟩) (by rw [mutH_at (by decide), mutH_at (by decide)]; rfl) (.inl (by rw [mutC_at (by decide)]; rfl)) (by rw [mutE_at (by decide), mutE_at (by decide)]; rfl) ?_⟩
          rw [mutR_at hjc (by decide), mutR_at hjc (by decide)]
          exact mut_lt (Nat.le_of_ble_eq_true rfl)
        · skip
          refine ⟨1, t0, mut_same h hx hno (x' := ⟨23 * j + 7, [a0, 1, a2, r3, 2, 0, 1, a7], false⟩) (al' := al) (el' := el) ((can_go hc hk hx hp hi).trans set2) (.inl rfl) (.inr ⟨j, 7, _, _, _, _, _, _, _, _, rfl, .inl ⟨hjc, by decide, ⟨rfl, rfl, rfl, .inl rfl⟩⟩⟩) (by rw [mutH_at (by decide), mutH_at (by decide)]; rfl) (.inl (by rw [mutC_at (by decide)]; rfl)) (by rw [mutE_at (by decide), mutE_at (by decide)]; rfl) ?_⟩
          rw [mutR_at hjc (by decide), mutR_at hjc (by decide)]
          exact mut_lt (Nat.le_of_ble_eq_true rfl)
        · skip
          refine ⟨2, t0, mut_same h hx hno (x' := ⟨23 * j + 7, [a0, 1, a2, r3, 2, 0, 1, a7], false⟩) (al' := al) (el' := el) ((can_go hc hk hx hp hi).trans set2) (.inl rfl) (.inr ⟨j, 7, _, _, _, _, _, _, _, _, rfl, .inl ⟨hjc, by decide, ⟨rfl, rfl, rfl, .inl rfl⟩⟩⟩) (by rw [mutH_at (by decide), mutH_at (by decide)]; rfl) (.inl (by rw [mutC_at (by decide)]; rfl)) (by rw [mutE_at (by decide), mutE_at (by decide)]; rfl) ?_⟩
          rw [mutR_at hjc (by decide), mutR_at hjc (by decide)]
          exact mut_lt (Nat.le_of_ble_eq_true rfl)
      · skip
        rcases hw with rfl | rfl | rfl
        · skip
          refine ⟨0, t0, mut_same h hx hno (x' := ⟨23 * j + 7, [a0, 2, a2, r3, 2, 0, 1, a7], false⟩) (al' := al) (el' := el) ((can_go hc hk hx hp hi).trans set2) (.inl rfl) (.inr ⟨j, 7, _, _, _, _, _, _, _, _, rfl, .inl ⟨hjc, by decide, ⟨rfl, rfl, rfl, .inr rfl⟩⟩⟩) (by rw [mutH_at (by decide), mutH_at (by decide)]; rfl) (.inl (by rw [mutC_at (by decide)]; rfl)) (by rw [mutE_at (by decide), mutE_at (by decide)]; rfl) ?_⟩
          rw [mutR_at hjc (by decide), mutR_at hjc (by decide)]
          exact mut_lt (Nat.le_of_ble_eq_true rfl)
        · skip
          refine ⟨1, t0, mut_same h hx hno (x' := ⟨23 * j + 7, [a0, 2, a2, r3, 2, 0, 1, a7], false⟩) (al' := al) (el' := el) ((can_go hc hk hx hp hi).trans set2) (.inl rfl) (.inr ⟨j, 7, _, _, _, _, _, _, _, _, rfl, .inl ⟨hjc, by decide, ⟨rfl, rfl, rfl, .inr rfl⟩⟩⟩) (by rw [mutH_at (by decide), mutH_at (by decide)]; rfl) (.inl (by rw [mutC_at (by decide)]; rfl)) (by rw [mutE_at (by decide), mutE_at (by decide)]; rfl) ?_⟩
          rw [mutR_at hjc (by decide), mutR_at hjc (by decide)]
          exact mut_lt (Nat.le_of_ble_eq_true rfl)
        · skip
          refine ⟨2, t0, mut_same h hx hno (x' := ⟨23 * j + 7, [a0, 2, a2, r3, 2, 0, 1, a7], false⟩) (al' := al) (el' := el) ((can_go hc hk hx hp hi).trans set2) (.inl rfl) (.inr ⟨j, 7, _, _, _, _, _, _, _, _, rfl, .inl ⟨hjc, by decide, ⟨rfl, rfl, rfl, .inr rfl⟩⟩⟩) (by rw [mutH_at (by decide), mutH_at (by decide)]; rfl) (.inl (by rw [mutC_at (by decide)]; rfl)) (by rw [mutE_at (by decide), mutE_at (by decide)]; rfl) ?_⟩
          rw [mutR_at hjc (by decide), mutR_at hjc (by decide)]
          exact mut_lt (Nat.le_of_ble_eq_true rfl)
    · have hi := repP_get mutB (j := j) (n := c) (o := 7) (by decide) hjc
      obtain ⟨rfl, rfl, rfl, h1⟩ : r5 = 0 ∧ r6 = 1 ∧ r4 = 2 ∧ (r1 = 1 ∨ r1 = 2) := hok
      rcases h1 with rfl | rfl
      · skip
        rcases hw with rfl | rfl | rfl
        · skip
          refine ⟨0, t0, mut_same h hx hno (x' := ⟨23 * j + 8, [a0, 1, a2, r3, 2, 0, 1, a7], false⟩) (al' := al) (el' := el) ((can_go hc hk hx hp hi).trans set2) (.inl rfl) (.inr ⟨j, 8, _, _, _, _, _, _, _, _, rfl, .inl ⟨hjc, by decide, ⟨rfl, rfl, rfl, rfl⟩⟩⟩) (by rw [mutH_at (by decide), mutH_at (by decide)]; rfl) (.inl (by rw [mutC_at (by decide)]; rfl)) (by rw [mutE_at (by decide), mutE_at (by decide)]; rfl) ?_⟩
          rw [mutR_at hjc (by decide), mutR_at hjc (by decide)]
          exact mut_lt (Nat.le_of_ble_eq_true rfl)
        · skip
          refine ⟨1, t0, mut_same h hx hno (x' := ⟨23 * j + 8, [a0, 1, a2, r3, 2, 0, 1, a7], false⟩) (al' := al) (el' := el) ((can_go hc hk hx hp hi).trans set2) (.inl rfl) (.inr ⟨j, 8, _, _, _, _, _, _, _, _, rfl, .inl ⟨hjc, by decide, ⟨rfl, rfl, rfl, rfl⟩⟩⟩) (by rw [mutH_at (by decide), mutH_at (by decide)]; rfl) (.inl (by rw [mutC_at (by decide)]; rfl)) (by rw [mutE_at (by decide), mutE_at (by decide)]; rfl) ?_⟩
          rw [mutR_at hjc (by decide), mutR_at hjc (by decide)]
          exact mut_lt (Nat.le_of_ble_eq_true rfl)
        · skip
          refine ⟨2, t0, mut_same h hx hno (x' := ⟨23 * j + 8, [a0, 1, a2, r3, 2, 0, 1, a7], false⟩) (al' := al) (el' := el) ((can_go hc hk hx hp hi).trans set2) (.inl rfl) (.inr ⟨j, 8, _, _, _, _, _, _, _, _, rfl, .inl ⟨hjc, by decide, ⟨rfl, rfl, rfl, rfl⟩⟩⟩) (by rw [mutH_at (by decide), mutH_at (by decide)]; rfl) (.inl (by rw [mutC_at (by decide)]; rfl)) (by rw [mutE_at (by decide), mutE_at (by decide)]; rfl) ?_⟩
          rw [mutR_at hjc (by decide), mutR_at hjc (by decide)]
          exact mut_lt (Nat.le_of_ble_eq_true rfl)
      · skip
        rcases hw with rfl | rfl | rfl
        · skip
          refine ⟨0, t0, mut_same h hx hno (x' := ⟨23 * j + 10, [a0, 2, a2, r3, 2, 0, 1, a7], false⟩) (al' := al) (el' := el) ((can_go hc hk hx hp hi).trans set2) (.inl rfl) (.inr ⟨j, 10, _, _, _, _, _, _, _, _, rfl, .inl ⟨hjc, by decide, ⟨rfl, rfl, rfl⟩⟩⟩) (by rw [mutH_at (by decide), mutH_at (by decide)]; rfl) (.inl (by rw [mutC_at (by decide)]; rfl)) (by rw [mutE_at (by decide), mutE_at (by decide)]; rfl) ?_⟩
          rw [mutR_at hjc (by decide), mutR_at hjc (by decide)]
          exact mut_lt (Nat.le_of_ble_eq_true rfl)
        · skip
          refine ⟨1, t0, mut_same h hx hno (x' := ⟨23 * j + 10, [a0, 2, a2, r3, 2, 0, 1, a7], false⟩) (al' := al) (el' := el) ((can_go hc hk hx hp hi).trans set2) (.inl rfl) (.inr ⟨j, 10, _, _, _, _, _, _, _, _, rfl, .inl ⟨hjc, by decide, ⟨rfl, rfl, rfl⟩⟩⟩) (by rw [mutH_at (by decide), mutH_at (by decide)]; rfl) (.inl (by rw [mutC_at (by decide)]; rfl)) (by rw [mutE_at (by decide), mutE_at (by decide)]; rfl) ?_⟩
          rw [mutR_at hjc (by decide), mutR_at hjc (by decide)]
          exact mut_lt (Nat.le_of_ble_eq_true rfl)
        · skip
          refine ⟨2, t0, mut_same h hx hno (x' := ⟨23 * j + 10, [a0, 2, a2, r3, 2, 0, 1, a7], false⟩) (al' := al) (el' := el) ((can_go hc hk hx hp hi).trans set2) (.inl rfl) (.inr ⟨j, 10, _, _, _, _, _, _, _, _, rfl, .inl ⟨hjc, by decide, ⟨rfl, rfl, rfl⟩⟩⟩) (by rw [mutH_at (by decide), mutH_at (by decide)]; rfl) (.inl (by rw [mutC_at (by decide)]; rfl)) (by rw [mutE_at (by decide), mutE_at (by decide)]; rfl) ?_⟩
          rw [mutR_at hjc (by decide), mutR_at hjc (by decide)]
          exact mut_lt (Nat.le_of_ble_eq_true rfl)
    · have hi := repP_get mutB (j := j) (n := c) (o := 8) (by decide) hjc
      obtain ⟨rfl, rfl, rfl, rfl⟩ : r5 = 0 ∧ r6 = 1 ∧ r4 = 2 ∧ r1 = 1 := hok
      rcases hw with rfl | rfl | rfl
      · skip
        refine ⟨0, t0, mut_same h hx hno (x' := ⟨23 * j + 9, [a0, 1, a2, 0, 2, 0, 1, a7], false⟩) (al' := al ++ [⟨(k + 1 : Nat), t, 9, 0, 0, 0⟩]) (el' := el) ((can_go hc hk hx hp hi).trans set2) (.inr ⟨_, .inr rfl, rfl⟩) (.inr ⟨j, 9, _, _, _, _, _, _, _, _, rfl, .inl ⟨hjc, by decide, ⟨rfl, rfl, rfl, .inl rfl⟩⟩⟩) (by rw [mutH_at (by decide), mutH_at (by decide)]; rfl) (.inl (by rw [mutC_at (by decide)]; rfl)) (by rw [mutE_at (by decide), mutE_at (by decide)]; rfl) ?_⟩
        rw [mutR_at hjc (by decide), mutR_at hjc (by decide)]
        exact mut_lt (Nat.le_of_ble_eq_true rfl)
      · skip
        have hnt : t ≠ t0 := fun he => by
          have := hho
          rw [mutH_at (by decide), decide_eq_true (show (1 : Int) ≠ 0 ∧ t = t0 from ⟨by decide, he⟩)] at this
          cases this
        refine ⟨2, t0, mut_upd h hx hno (x' := ⟨23 * j + 9, [a0, 1, a2, 1, 2, 0, 1, a7], false⟩) (w' := 2) (d := 8) (ss' := ss) (al' := al ++ [⟨(k + 1 : Nat), t, 9, 0, 1, 2⟩]) (el' := el) ((can_go hc hk hx hp hi).trans set2) (.inr rfl) (by decide) (.inr ⟨j, 9, _, _, _, _, _, _, _, _, rfl, .inl ⟨hjc, by decide, ⟨rfl, rfl, rfl, .inr rfl⟩⟩⟩) ?_ (fun s hs => ?_) ?_ (fun s hs => .inl hs) (fun hne => .inl rfl) ?_ (by rw [mutE_at (by decide), mutE_at (by decide)]; rfl) ?_⟩
        · rw [mutH_at (by decide)]; exact (decide_eq_false (fun h => hnt h.2)).symm
        · exact ⟨fun h => ⟨by decide, h.2⟩, fun h => ⟨by decide, h.2⟩⟩
        · exact fun _ => h.tl (by decide)
        · rw [holdZ_snoc, hfo]
          show (if (1 : Int) = 1 ∧ (2 : Int) = 2 ∧ (t0 : Int) ≠ (t : Int) then some (t0 : Int) else none) = some (t0 : Int)
          exact if_pos ⟨rfl, rfl, by omega⟩
        · rw [mutR_at hjc (by decide), mutR_at hjc (by decide)]
          exact mut_lt2 (by show 218 + 5 * ss.length + 72 + 56 + 1 ≤ 217 + 5 * ss.length + 144; omega)
      · skip
        refine ⟨2, t0, mut_same h hx hno (x' := ⟨23 * j + 9, [a0, 1, a2, 0, 2, 0, 1, a7], false⟩) (al' := al ++ [⟨(k + 1 : Nat), t, 9, 0, 2, 2⟩]) (el' := el) ((can_go hc hk hx hp hi).trans set2) (.inr ⟨_, .inr rfl, rfl⟩) (.inr ⟨j, 9, _, _, _, _, _, _, _, _, rfl, .inl ⟨hjc, by decide, ⟨rfl, rfl, rfl, .inl rfl⟩⟩⟩) (by rw [mutH_at (by decide), mutH_at (by decide)]; rfl) (.inl (by rw [mutC_at (by decide)]; rfl)) (by rw [mutE_at (by decide), mutE_at (by decide)]; rfl) ?_⟩
        rw [mutR_at hjc (by decide), mutR_at hjc (by decide)]
        exact mut_lt (Nat.le_of_ble_eq_true rfl)
    · have hi := repP_get mutB (j := j) (n := c) (o := 9) (by decide) hjc
      obtain ⟨rfl, rfl, rfl, h3⟩ : r5 = 0 ∧ r6 = 1 ∧ r4 = 2 ∧ (r3 = 0 ∨ r3 = 1) := hok
      rcases h3 with rfl | rfl
      · skip
        rcases hw with rfl | rfl | rfl
        · skip
          refine ⟨0, t0, mut_same h hx hno (x' := ⟨23 * j + 5, [a0, r1, a2, 0, 2, 0, 1, a7], false⟩) (al' := al) (el' := el) ((can_go hc hk hx hp hi).trans set2) (.inl rfl) (.inr ⟨j, 5, _, _, _, _, _, _, _, _, rfl, .inl ⟨hjc, by decide, ⟨rfl, rfl, rfl⟩⟩⟩) (by rw [mutH_at (by decide), mutH_at (by decide)]; rfl) (.inl (by rw [mutC_at (by decide)]; rfl)) (by rw [mutE_at (by decide), mutE_at (by decide)]; rfl) ?_⟩
          rw [mutR_at hjc (by decide), mutR_at hjc (by decide)]
          exact mut_lt (Nat.le_of_ble_eq_true rfl)
        · skip
          refine ⟨1, t0, mut_same h hx hno (x' := ⟨23 * j + 5, [a0, r1, a2, 0, 2, 0, 1, a7], false⟩) (al' := al) (el' := el) ((can_go hc hk hx hp hi).trans set2) (.inl rfl) (.inr ⟨j, 5, _, _, _, _, _, _, _, _, rfl, .inl ⟨hjc, by decide, ⟨rfl, rfl, rfl⟩⟩⟩) (by rw [mutH_at (by decide), mutH_at (by decide)]; rfl) (.inl (by rw [mutC_at (by decide)]; rfl)) (by rw [mutE_at (by decide), mutE_at (by decide)]; rfl) ?_⟩
          rw [mutR_at hjc (by decide), mutR_at hjc (by decide)]
          exact mut_lt (Nat.le_of_ble_eq_true rfl)
        · skip
          refine ⟨2, t0, mut_same h hx hno (x' := ⟨23 * j + 5, [a0, r1, a2, 0, 2, 0, 1, a7], false⟩) (al' := al) (el' := el) ((can_go hc hk hx hp hi).trans set2) (.inl rfl) (.inr ⟨j, 5, _, _, _, _, _, _, _, _, rfl, .inl ⟨hjc, by decide, ⟨rfl, rfl, rfl⟩⟩⟩) (by rw [mutH_at (by decide), mutH_at (by decide)]; rfl) (.inl (by rw [mutC_at (by decide)]; rfl)) (by rw [mutE_at (by decide), mutE_at (by decide)]; rfl) ?_⟩
          rw [mutR_at hjc (by decide), mutR_at hjc (by decide)]
          exact mut_lt (Nat.le_of_ble_eq_true rfl)
      · skip
        rcases hw with rfl | rfl | rfl
        · skip
          refine ⟨0, t0, mut_same h hx hno (x' := ⟨23 * j + 10, [a0, r1, a2, 1, 2, 0, 1, a7], false⟩) (al' := al) (el' := el) ((can_go hc hk hx hp hi).trans set2) (.inl rfl) (.inr ⟨j, 10, _, _, _, _, _, _, _, _, rfl, .inl ⟨hjc, by decide, ⟨rfl, rfl, rfl⟩⟩⟩) (by rw [mutH_at (by decide), mutH_at (by decide)]; rfl) (.inl (by rw [mutC_at (by decide)]; rfl)) (by rw [mutE_at (by decide), mutE_at (by decide)]; rfl) ?_⟩
          rw [mutR_at hjc (by decide), mutR_at hjc (by decide)]
          exact mut_lt (Nat.le_of_ble_eq_true rfl)
        · skip
          refine ⟨1, t0, mut_same h hx hno (x' := ⟨23 * j + 10, [a0, r1, a2, 1, 2, 0, 1, a7], false⟩) (al' := al) (el' := el) ((can_go hc hk hx hp hi).trans set2) (.inl rfl) (.inr ⟨j, 10, _, _, _, _, _, _, _, _, rfl, .inl ⟨hjc, by decide, ⟨rfl, rfl, rfl⟩⟩⟩) (by rw [mutH_at (by decide), mutH_at (by decide)]; rfl) (.inl (by rw [mutC_at (by decide)]; rfl)) (by rw [mutE_at (by decide), mutE_at (by decide)]; rfl) ?_⟩
          rw [mutR_at hjc (by decide), mutR_at hjc (by decide)]
          exact mut_lt (Nat.le_of_ble_eq_true rfl)
        · skip
          refine ⟨2, t0, mut_same h hx hno (x' := ⟨23 * j + 10, [a0, r1, a2, 1, 2, 0, 1, a7], false⟩) (al' := al) (el' := el) ((can_go hc hk hx hp hi).trans set2) (.inl rfl) (.inr ⟨j, 10, _, _, _, _, _, _, _, _, rfl, .inl ⟨hjc, by decide, ⟨rfl, rfl, rfl⟩⟩⟩) (by rw [mutH_at (by decide), mutH_at (by decide)]; rfl) (.inl (by rw [mutC_at (by decide)]; rfl)) (by rw [mutE_at (by decide), mutE_at (by decide)]; rfl) ?_⟩
          rw [mutR_at hjc (by decide), mutR_at hjc (by decide)]
          exact mut_lt (Nat.le_of_ble_eq_true rfl)
    · have hi := repP_get mutB (j := j) (n := c) (o := 10) (by decide) hjc
      obtain ⟨rfl, rfl, rfl⟩ : r5 = 0 ∧ r6 = 1 ∧ r4 = 2 := hok
      rcases hw with rfl | rfl | rfl
      · skip
        refine ⟨0, t0, mut_same h hx hno (x' := ⟨23 * j + 11, [a0, r1, a2, r3, 2, 0, 1, a7], false⟩) (al' := al) (el' := el) ((can_go hc hk hx hp hi).trans rfl) (.inl rfl) (.inr ⟨j, 11, _, _, _, _, _, _, _, _, rfl, .inl ⟨hjc, by decide, ⟨rfl, rfl, rfl⟩⟩⟩) (by rw [mutH_at (by decide), mutH_at (by decide)]; rfl) (.inl (by rw [mutC_at (by decide)]; rfl)) (by rw [mutE_at (by decide), mutE_at (by decide)]; rfl) ?_⟩
        rw [mutR_at hjc (by decide), mutR_at hjc (by decide)]
        exact mut_lt (Nat.le_of_ble_eq_true rfl)
      · skip
        refine ⟨1, t0, mut_same h hx hno (x' := ⟨23 * j + 11, [a0, r1, a2, r3, 2, 0, 1, a7], false⟩) (al' := al) (el' := el) ((can_go hc hk hx hp hi).trans rfl) (.inl rfl) (.inr ⟨j, 11, _, _, _, _, _, _, _, _, rfl, .inl ⟨hjc, by decide, ⟨rfl, rfl, rfl⟩⟩⟩) (by rw [mutH_at (by decide), mutH_at (by decide)]; rfl) (.inl (by rw [mutC_at (by decide)]; rfl)) (by rw [mutE_at (by decide), mutE_at (by decide)]; rfl) ?_⟩
        rw [mutR_at hjc (by decide), mutR_at hjc (by decide)]
        exact mut_lt (Nat.le_of_ble_eq_true rfl)
      · skip
        refine ⟨2, t0, mut_upd h hx hno (x' := ⟨23 * j + 11, [a0, r1, a2, r3, 2, 0, 1, a7], false⟩) (w' := 2) (d := 0) (ss' := ss ++ [⟨t, 0⟩]) (al' := al) (el' := el) ((can_go hc hk hx hp hi).trans rfl) (.inl ⟨rfl, rfl⟩) (by decide) (.inr ⟨j, 11, _, _, _, _, _, _, _, _, rfl, .inl ⟨hjc, by decide, ⟨rfl, rfl, rfl⟩⟩⟩) ?_ (fun s hs => Iff.rfl) h.tl (fun s hs => ?_) (fun _ => .inl rfl) hfo (by rw [mutE_at (by decide), mutE_at (by decide)]; rfl) ?_⟩
        · rw [mutH_at (by decide), ← hho, mutH_at (by decide)]; rfl
        · rcases List.mem_append.1 hs with hs | hs
          · exact .inl hs
          · rw [List.mem_singleton] at hs
            exact .inr ⟨hs, by show (23 * j + 11) % 23 = 11; omega, rfl⟩
        · rw [mutR_at hjc (by decide), mutR_at hjc (by decide), List.length_append]
          exact mut_lt2 (by show 221 + 5 * ss.length + 72 + 0 + 1 ≤ 217 + 5 * (ss.length + 1) + 72; omega)
    · have hi := repP_get mutB (j := j) (n := c) (o := 11) (by decide) hjc
      obtain ⟨rfl, rfl, rfl⟩ : r5 = 0 ∧ r6 = 1 ∧ r4 = 2 := hok
      rcases hw with rfl | rfl | rfl
      · skip
        refine ⟨0, t0, mut_same h hx hno (x' := ⟨23 * j + 5, [a0, r1, a2, r3, 2, 0, 1, a7], false⟩) (al' := al) (el' := el) ((can_go hc hk hx hp hi).trans set2) (.inl rfl) (.inr ⟨j, 5, _, _, _, _, _, _, _, _, rfl, .inl ⟨hjc, by decide, ⟨rfl, rfl, rfl⟩⟩⟩) (by rw [mutH_at (by decide), mutH_at (by decide)]; rfl) (.inl (by rw [mutC_at (by decide)]; rfl)) (by rw [mutE_at (by decide), mutE_at (by decide)]; rfl) ?_⟩
        rw [mutR_at hjc (by decide), mutR_at hjc (by decide)]
        exact mut_lt (Nat.le_of_ble_eq_true rfl)
      · skip
        refine ⟨1, t0, mut_same h hx hno (x' := ⟨23 * j + 5, [a0, r1, a2, r3, 2, 0, 1, a7], false⟩) (al' := al) (el' := el) ((can_go hc hk hx hp hi).trans set2) (.inl rfl) (.inr ⟨j, 5, _, _, _, _, _, _, _, _, rfl, .inl ⟨hjc, by decide, ⟨rfl, rfl, rfl⟩⟩⟩) (by rw [mutH_at (by decide), mutH_at (by decide)]; rfl) (.inl (by rw [mutC_at (by decide)]; rfl)) (by rw [mutE_at (by decide), mutE_at (by decide)]; rfl) ?_⟩
        rw [mutR_at hjc (by decide), mutR_at hjc (by decide)]
        exact mut_lt (Nat.le_of_ble_eq_true rfl)
      · skip
        refine ⟨2, t0, mut_same h hx hno (x' := ⟨23 * j + 5, [a0, r1, a2, r3, 2, 0, 1, a7], false⟩) (al' := al) (el' := el) ((can_go hc hk hx hp hi).trans set2) (.inl rfl) (.inr ⟨j, 5, _, _, _, _, _, _, _, _, rfl, .inl ⟨hjc, by decide, ⟨rfl, rfl, rfl⟩⟩⟩) (by rw [mutH_at (by decide), mutH_at (by decide)]; rfl) (.inl (by rw [mutC_at (by decide)]; rfl)) (by rw [mutE_at (by decide), mutE_at (by decide)]; rfl) ?_⟩
        rw [mutR_at hjc (by decide), mutR_at hjc (by decide)]
        exact mut_lt (Nat.le_of_ble_eq_true rfl)
    · have hi := repP_get mutB (j := j) (n := c) (o := 12) (by decide) hjc
      obtain ⟨rfl, rfl, rfl⟩ : r5 = 0 ∧ r6 = 1 ∧ r4 = 2 := hok
      rcases hw with rfl | rfl | rfl
      · skip
        refine ⟨2, t, mut_upd h hx hno (x' := ⟨23 * j + 13, [a0, r1, a2, 1, 2, 0, 1, a7], false⟩) (w' := 2) (d := 8) (ss' := ss) (al' := al ++ [⟨(k + 1 : Nat), t, 9, 0, 0, 2⟩]) (el' := el) ((can_go hc hk hx hp hi).trans set2) (.inr rfl) (by decide) (.inr ⟨j, 13, _, _, _, _, _, _, _, _, rfl, .inl ⟨hjc, by decide, ⟨rfl, rfl, rfl, .inr rfl⟩⟩⟩) ?_ (fun s hs => ?_) ?_ (fun s hs => .inl hs) (fun hne => .inl rfl) ?_ (by rw [mutE_at (by decide), mutE_at (by decide)]; rfl) ?_⟩
        · rw [mutH_at (by decide)]; exact (decide_eq_true ⟨by decide, rfl⟩).symm
        · exact ⟨fun h => absurd rfl h.1, fun h => absurd h.2 hs⟩
        · exact fun _ => hlt
        · rw [holdZ_snoc, hfo]; rfl
        · rw [mutR_at hjc (by decide), mutR_at hjc (by decide)]
          exact mut_lt2 (by show 5 + 5 * ss.length + 72 + 56 + 1 ≤ 217 + 5 * ss.length + 0; omega)
      · skip
        refine ⟨1, t0, mut_same h hx hno (x' := ⟨23 * j + 13, [a0, r1, a2, 0, 2, 0, 1, a7], false⟩) (al' := al ++ [⟨(k + 1 : Nat), t, 9, 0, 1, 1⟩]) (el' := el) ((can_go hc hk hx hp hi).trans set2) (.inr ⟨_, .inr rfl, rfl⟩) (.inr ⟨j, 13, _, _, _, _, _, _, _, _, rfl, .inl ⟨hjc, by decide, ⟨rfl, rfl, rfl, .inl rfl⟩⟩⟩) (by rw [mutH_at (by decide), mutH_at (by decide)]; rfl) (.inl (by rw [mutC_at (by decide)]; rfl)) (by rw [mutE_at (by decide), mutE_at (by decide)]; rfl) ?_⟩
        rw [mutR_at hjc (by decide), mutR_at hjc (by decide)]
        exact mut_lt (Nat.le_of_ble_eq_true rfl)
      · skip
        refine ⟨2, t0, mut_same h hx hno (x' := ⟨23 * j + 13, [a0, r1, a2, 0, 2, 0, 1, a7], false⟩) (al' := al ++ [⟨(k + 1 : Nat), t, 9, 0, 2, 2⟩]) (el' := el) ((can_go hc hk hx hp hi).trans set2) (.inr ⟨_, .inr rfl, rfl⟩) (.inr ⟨j, 13, _, _, _, _, _, _, _, _, rfl, .inl ⟨hjc, by decide, ⟨rfl, rfl, rfl, .inl rfl⟩⟩⟩) (by rw [mutH_at (by decide), mutH_at (by decide)]; rfl) (.inl (by rw [mutC_at (by decide)]; rfl)) (by rw [mutE_at (by decide), mutE_at (by decide)]; rfl) ?_⟩
        rw [mutR_at hjc (by decide), mutR_at hjc (by decide)]
        exact mut_lt (Nat.le_of_ble_eq_true rfl)
    · have hi := repP_get mutB (j := j) (n := c) (o := 13) (by decide) hjc
      obtain ⟨rfl, rfl, rfl, h3⟩ : r5 = 0 ∧ r6 = 1 ∧ r4 = 2 ∧ (r3 = 0 ∨ r3 = 1) := hok
      rcases h3 with rfl | rfl
      · skip
        rcases hw with rfl | rfl | rfl
        · skip
          refine ⟨0, t0, mut_same h hx hno (x' := ⟨23 * j + 5, [a0, r1, a2, 0, 2, 0, 1, a7], false⟩) (al' := al) (el' := el) ((can_go hc hk hx hp hi).trans set2) (.inl rfl) (.inr ⟨j, 5, _, _, _, _, _, _, _, _, rfl, .inl ⟨hjc, by decide, ⟨rfl, rfl, rfl⟩⟩⟩) (by rw [mutH_at (by decide), mutH_at (by decide)]; rfl) (.inl (by rw [mutC_at (by decide)]; rfl)) (by rw [mutE_at (by decide), mutE_at (by decide)]; rfl) ?_⟩
          rw [mutR_at hjc (by decide), mutR_at hjc (by decide)]
          exact mut_lt (Nat.le_of_ble_eq_true rfl)
        · skip
          refine ⟨1, t0, mut_same h hx hno (x' := ⟨23 * j + 5, [a0, r1, a2, 0, 2, 0, 1, a7], false⟩) (al' := al) (el' := el) ((can_go hc hk hx hp hi).trans set2) (.inl rfl) (.inr ⟨j, 5, _, _, _, _, _, _, _, _, rfl, .inl ⟨hjc, by decide, ⟨rfl, rfl, rfl⟩⟩⟩) (by rw [mutH_at (by decide), mutH_at (by decide)]; rfl) (.inl (by rw [mutC_at (by decide)]; rfl)) (by rw [mutE_at (by decide), mutE_at (by decide)]; rfl) ?_⟩
          rw [mutR_at hjc (by decide), mutR_at hjc (by decide)]
          exact mut_lt (Nat.le_of_ble_eq_true rfl)
        · skip
          refine ⟨2, t0, mut_same h hx hno (x' := ⟨23 * j + 5, [a0, r1, a2, 0, 2, 0, 1, a7], false⟩) (al' := al) (el' := el) ((can_go hc hk hx hp hi).trans set2) (.inl rfl) (.inr ⟨j, 5, _, _, _, _, _, _, _, _, rfl, .inl ⟨hjc, by decide, ⟨rfl, rfl, rfl⟩⟩⟩) (by rw [mutH_at (by decide), mutH_at (by decide)]; rfl) (.inl (by rw [mutC_at (by decide)]; rfl)) (by rw [mutE_at (by decide), mutE_at (by decide)]; rfl) ?_⟩
          rw [mutR_at hjc (by decide), mutR_at hjc (by decide)]
          exact mut_lt (Nat.le_of_ble_eq_true rfl)
      · skip
        refine ⟨w, t0, mut_same h hx hno (x' := ⟨23 * j + 14, [a0, r1, a2, 1, 2, 0, 1, a7], false⟩) (al' := al) (el' := el) ((can_go hc hk hx hp hi).trans set2) (.inl rfl) (.inr ⟨j, 14, _, _, _, _, _, _, _, _, rfl, .inl ⟨hjc, by decide, trivial⟩⟩) (by rw [mutH_at (by decide), mutH_at (by decide)]; rfl) (.inr (by rw [mutC_at (by decide)]; rfl)) (by rw [mutE_at (by decide), mutE_at (by decide)]; rfl) ?_⟩
        rw [mutR_at hjc (by decide), mutR_at hjc (by decide)]
        exact mut_lt (Nat.le_of_ble_eq_true rfl)
    · have hi := repP_get mutB (j := j) (n := c) (o := 14) (by decide) hjc
      refine ⟨w, t0, mut_same h hx hno (x' := ⟨23 * j + 15, [a0, r1, a2, r3, r4, r5, r6, a7], false⟩) (al' := al) (el' := el ++ [⟨(k + 1 : Nat), 3, t, IntKind.i64.wrap r5⟩]) ((can_go hc hk hx hp hi).trans rfl) (.inl rfl) (.inr ⟨j, 15, _, _, _, _, _, _, _, _, rfl, .inl ⟨hjc, by decide, trivial⟩⟩) (by rw [mutH_at (by decide), mutH_at (by decide)]; rfl) (.inr (by rw [mutC_at (by decide)]; rfl)) (by rw [mutE_at (by decide), mutE_at (by decide), List.length_append]; show el.length + 1 + (2 * j + 0) = el.length + (2 * j + 1); omega) ?_⟩
      rw [mutR_at hjc (by decide), mutR_at hjc (by decide)]
      exact mut_lt (Nat.le_of_ble_eq_true rfl)
    · have hi := repP_get mutB (j := j) (n := c) (o := 15) (by decide) hjc
      refine ⟨w, t0, mut_same h hx hno (x' := ⟨23 * j + 16, [a0, r1, a2, r3, r4, 0, r6, a7], false⟩) (al' := al) (el' := el) ((can_go hc hk hx hp hi).trans set2) (.inl rfl) (.inr ⟨j, 16, _, _, _, _, _, _, _, _, rfl, .inl ⟨hjc, by decide, rfl⟩⟩) (by rw [mutH_at (by decide), mutH_at (by decide)]; rfl) (.inr (by rw [mutC_at (by decide)]; rfl)) (by rw [mutE_at (by decide), mutE_at (by decide)]; rfl) ?_⟩
      rw [mutR_at hjc (by decide), mutR_at hjc (by decide)]
      exact mut_lt (Nat.le_of_ble_eq_true rfl)
    · have hi := repP_get mutB (j := j) (n := c) (o := 16) (by decide) hjc
      obtain rfl : r5 = 0 := hok
      rcases hw with rfl | rfl | rfl
      · skip
        rw [mutH_at (by decide), decide_eq_false (fun h => h.1 rfl)] at hho
        cases hho
      · skip
        refine ⟨1, t0, mut_same h hx hno (x' := ⟨23 * j + 17, [a0, 1, a2, r3, r4, 0, r6, a7], false⟩) (al' := al ++ [⟨(k + 1 : Nat), t, 6, 0, 1, 1⟩]) (el' := el) ((can_go hc hk hx hp hi).trans set2) (.inr ⟨_, .inl (show (6 : Int) ≠ 9 by decide), rfl⟩) (.inr ⟨j, 17, _, _, _, _, _, _, _, _, rfl, .inl ⟨hjc, by decide, ⟨rfl, .inl rfl⟩⟩⟩) (by rw [mutH_at (by decide), mutH_at (by decide)]; rfl) (.inr (by rw [mutC_at (by decide)]; rfl)) (by rw [mutE_at (by decide), mutE_at (by decide)]; rfl) ?_⟩
        rw [mutR_at hjc (by decide), mutR_at hjc (by decide)]
        exact mut_lt (Nat.le_of_ble_eq_true rfl)
      · skip
        refine ⟨2, t0, mut_same h hx hno (x' := ⟨23 * j + 17, [a0, 2, a2, r3, r4, 0, r6, a7], false⟩) (al' := al ++ [⟨(k + 1 : Nat), t, 6, 0, 2, 2⟩]) (el' := el) ((can_go hc hk hx hp hi).trans set2) (.inr ⟨_, .inl (show (6 : Int) ≠ 9 by decide), rfl⟩) (.inr ⟨j, 17, _, _, _, _, _, _, _, _, rfl, .inl ⟨hjc, by decide, ⟨rfl, .inr rfl⟩⟩⟩) (by rw [mutH_at (by decide), mutH_at (by decide)]; rfl) (.inr (by rw [mutC_at (by decide)]; rfl)) (by rw [mutE_at (by decide), mutE_at (by decide)]; rfl) ?_⟩
        rw [mutR_at hjc (by decide), mutR_at hjc (by decide)]
        exact mut_lt (Nat.le_of_ble_eq_true rfl)
    · have hi := repP_get mutB (j := j) (n := c) (o := 17) (by decide) hjc
      obtain ⟨rfl, h1⟩ : r5 = 0 ∧ (r1 = 1 ∨ r1 = 2) := hok
      rw [mutH_at (by decide)] at hho
      have hho2 := of_decide_eq_true hho.symm
      rcases h1 with rfl | rfl
      · skip
        rcases hw with rfl | rfl | rfl
        · skip
          exact absurd rfl hho2.1
        · skip
          refine ⟨0, t0, mut_upd h hx hno (x' := ⟨23 * j + 18, [a0, 1, a2, 1, r4, 0, r6, a7], false⟩) (w' := 0) (d := 8) (ss' := ss) (al' := al ++ [⟨(k + 1 : Nat), t, 9, 0, 1, 0⟩]) (el' := el) ((can_go hc hk hx hp hi).trans set2) (.inr rfl) (by decide) (.inr ⟨j, 18, _, _, _, _, _, _, _, _, rfl, .inl ⟨hjc, by decide, ⟨rfl, .inl rfl, .inr rfl⟩⟩⟩) ?_ (fun s hs => ?_) ?_ (fun s hs => .inl hs) (fun hne => .inr (.inr (jn2 (by rw [mutC_at (by decide)]; rfl) (by decide) hne))) ?_ (by rw [mutE_at (by decide), mutE_at (by decide)]; rfl) ?_⟩
          · rw [mutH_at (by decide)]; exact (decide_eq_false (fun h => h.1 rfl)).symm
          · exact ⟨fun h => absurd (h.2.trans hho2.2.symm) hs, fun h => absurd rfl h.1⟩
          · exact fun h => absurd rfl h
          · rw [holdZ_snoc, hfo]
            show (if (t0 : Int) = (t : Int) then some (-1 : Int) else none) = some (-1)
            exact if_pos (by have := hho2.2; omega)
          · rw [mutR_at hjc (by decide), mutR_at hjc (by decide)]
            exact mut_lt2 (by show 9 + 5 * ss.length + 0 + 56 + 1 ≤ 1 + 5 * ss.length + 144; omega)
        · skip
          refine ⟨2, t0, mut_same h hx hno (x' := ⟨23 * j + 18, [a0, 1, a2, 0, r4, 0, r6, a7], false⟩) (al' := al ++ [⟨(k + 1 : Nat), t, 9, 0, 2, 2⟩]) (el' := el) ((can_go hc hk hx hp hi).trans set2) (.inr ⟨_, .inr rfl, rfl⟩) (.inr ⟨j, 18, _, _, _, _, _, _, _, _, rfl, .inl ⟨hjc, by decide, ⟨rfl, .inl rfl, .inl rfl⟩⟩⟩) (by rw [mutH_at (by decide), mutH_at (by decide)]; rfl) (.inr (by rw [mutC_at (by decide)]; rfl)) (by rw [mutE_at (by decide), mutE_at (by decide)]; rfl) ?_⟩
          rw [mutR_at hjc (by decide), mutR_at hjc (by decide)]
          exact mut_lt (Nat.le_of_ble_eq_true rfl)
      · skip
        rcases hw with rfl | rfl | rfl
        · skip
          exact absurd rfl hho2.1
        · skip
          refine ⟨1, t0, mut_same h hx hno (x' := ⟨23 * j + 18, [a0, 2, a2, 0, r4, 0, r6, a7], false⟩) (al' := al ++ [⟨(k + 1 : Nat), t, 9, 0, 1, 1⟩]) (el' := el) ((can_go hc hk hx hp hi).trans set2) (.inr ⟨_, .inr rfl, rfl⟩) (.inr ⟨j, 18, _, _, _, _, _, _, _, _, rfl, .inl ⟨hjc, by decide, ⟨rfl, .inr rfl, .inl rfl⟩⟩⟩) (by rw [mutH_at (by decide), mutH_at (by decide)]; rfl) (.inr (by rw [mutC_at (by decide)]; rfl)) (by rw [mutE_at (by decide), mutE_at (by decide)]; rfl) ?_⟩
          rw [mutR_at hjc (by decide), mutR_at hjc (by decide)]
          exact mut_lt (Nat.le_of_ble_eq_true rfl)
        · skip
          refine ⟨0, t0, mut_upd h hx hno (x' := ⟨23 * j + 18, [a0, 2, a2, 1, r4, 0, r6, a7], false⟩) (w' := 0) (d := 8) (ss' := ss) (al' := al ++ [⟨(k + 1 : Nat), t, 9, 0, 2, 0⟩]) (el' := el) ((can_go hc hk hx hp hi).trans set2) (.inr rfl) (by decide) (.inr ⟨j, 18, _, _, _, _, _, _, _, _, rfl, .inl ⟨hjc, by decide, ⟨rfl, .inr rfl, .inr rfl⟩⟩⟩) ?_ (fun s hs => ?_) ?_ (fun s hs => .inl hs) (fun hne => (.inr (.inl ⟨by rw [mutC_at (by decide)]; rfl, hno⟩))) ?_ (by rw [mutE_at (by decide), mutE_at (by decide)]; rfl) ?_⟩
          · rw [mutH_at (by decide)]; exact (decide_eq_false (fun h => h.1 rfl)).symm
          · exact ⟨fun h => absurd (h.2.trans hho2.2.symm) hs, fun h => absurd rfl h.1⟩
          · exact fun h => absurd rfl h
          · rw [holdZ_snoc, hfo]
            show (if (t0 : Int) = (t : Int) then some (-1 : Int) else none) = some (-1)
            exact if_pos (by have := hho2.2; omega)
          · rw [mutR_at hjc (by decide), mutR_at hjc (by decide)]
            exact mut_lt2 (by show 9 + 5 * ss.length + 0 + 56 + 1 ≤ 1 + 5 * ss.length + 72; omega)
    · have hi := repP_get mutB (j := j) (n := c) (o := 18) (by decide) hjc
      obtain ⟨rfl, h1, h3⟩ : r5 = 0 ∧ (r1 = 1 ∨ r1 = 2) ∧ (r3 = 0 ∨ r3 = 1) := hok
      rcases h3 with rfl | rfl
      · skip
        refine ⟨w, t0, mut_same h hx hno (x' := ⟨23 * j + 16, [a0, r1, a2, 0, r4, 0, r6, a7], false⟩) (al' := al) (el' := el) ((can_go hc hk hx hp hi).trans set2) (.inl rfl) (.inr ⟨j, 16, _, _, _, _, _, _, _, _, rfl, .inl ⟨hjc, by decide, rfl⟩⟩) (by rw [mutH_at (by decide), mutH_at (by decide)]; rfl) (.inr (by rw [mutC_at (by decide)]; rfl)) (by rw [mutE_at (by decide), mutE_at (by decide)]; rfl) ?_⟩
        rw [mutR_at hjc (by decide), mutR_at hjc (by decide)]
        exact mut_lt (Nat.le_of_ble_eq_true rfl)
      · skip
        rcases h1 with rfl | rfl
        · skip
          refine ⟨w, t0, mut_same h hx hno (x' := ⟨23 * j + 19, [a0, 1, a2, 1, r4, 0, r6, a7], false⟩) (al' := al) (el' := el) ((can_go hc hk hx hp hi).trans set2) (.inl rfl) (.inr ⟨j, 19, _, _, _, _, _, _, _, _, rfl, .inl ⟨hjc, by decide, .inl rfl⟩⟩) (by rw [mutH_at (by decide), mutH_at (by decide)]; rfl) (.inr (by rw [mutC_at (by decide)]; rfl)) (by rw [mutE_at (by decide), mutE_at (by decide)]; rfl) ?_⟩
          rw [mutR_at hjc (by decide), mutR_at hjc (by decide)]
          exact mut_lt (Nat.le_of_ble_eq_true rfl)
        · skip
          refine ⟨w, t0, mut_same h hx hno (x' := ⟨23 * j + 19, [a0, 2, a2, 1, r4, 0, r6, a7], false⟩) (al' := al) (el' := el) ((can_go hc hk hx hp hi).trans set2) (.inl rfl) (.inr ⟨j, 19, _, _, _, _, _, _, _, _, rfl, .inl ⟨hjc, by decide, .inr rfl⟩⟩) (by rw [mutH_at (by decide), mutH_at (by decide)]; rfl) (.inl (by rw [mutC_at (by decide)]; rfl)) (by rw [mutE_at (by decide), mutE_at (by decide)]; rfl) ?_⟩
          rw [mutR_at hjc (by decide), mutR_at hjc (by decide)]
          exact mut_lt (Nat.le_of_ble_eq_true rfl)
    · have hi := repP_get mutB (j := j) (n := c) (o := 19) (by decide) hjc
      rcases (show r1 = 1 ∨ r1 = 2 from hok) with rfl | rfl
      · skip
        refine ⟨w, t0, mut_same h hx hno (x' := ⟨23 * j + 20, [a0, 1, a2, r3, r4, r5, r6, a7], false⟩) (al' := al) (el' := el) ((can_go hc hk hx hp hi).trans set2) (.inl rfl) (.inr ⟨j, 20, _, _, _, _, _, _, _, _, rfl, .inl ⟨hjc, by decide, trivial⟩⟩) (by rw [mutH_at (by decide), mutH_at (by decide)]; rfl) (.inr (by rw [mutC_at (by decide)]; rfl)) (by rw [mutE_at (by decide), mutE_at (by decide)]; rfl) ?_⟩
        rw [mutR_at hjc (by decide), mutR_at hjc (by decide)]
        exact mut_lt (Nat.le_of_ble_eq_true rfl)
      · skip
        refine ⟨w, t0, mut_same h hx hno (x' := ⟨23 * j + 21, [a0, 2, a2, r3, r4, r5, r6, a7], false⟩) (al' := al) (el' := el) ((can_go hc hk hx hp hi).trans set2) (.inl rfl) (.inr ⟨j, 21, _, _, _, _, _, _, _, _, rfl, .inl ⟨hjc, by decide, trivial⟩⟩) (by rw [mutH_at (by decide), mutH_at (by decide)]; rfl) (.inl (by rw [mutC_at (by decide)]; rfl)) (by rw [mutE_at (by decide), mutE_at (by decide)]; rfl) ?_⟩
        rw [mutR_at hjc (by decide), mutR_at hjc (by decide)]
        exact mut_lt (Nat.le_of_ble_eq_true rfl)
    · have hi := repP_get mutB (j := j) (n := c) (o := 20) (by decide) hjc
      refine ⟨w, t0, mut_same h hx hno (x' := ⟨23 * j + 22, [a0, r1, a2, r3, r4, r5, r6, a7], false⟩) (al' := al) (el' := el) ((can_go hc hk hx hp hi).trans set2) (.inl rfl) (.inr ⟨j, 22, _, _, _, _, _, _, _, _, rfl, .inl ⟨hjc, by decide, trivial⟩⟩) (by rw [mutH_at (by decide), mutH_at (by decide)]; rfl) (.inr (by rw [mutC_at (by decide)]; rfl)) (by rw [mutE_at (by decide), mutE_at (by decide)]; rfl) ?_⟩
      rw [mutR_at hjc (by decide), mutR_at hjc (by decide)]
      exact mut_lt (Nat.le_of_ble_eq_true rfl)
    · have hi := repP_get mutB (j := j) (n := c) (o := 21) (by decide) hjc
      have e1 := (can_go hc hk hx hp hi).trans (show _ = MZ.mk ps (ts.set t ⟨23 * j + 22, [a0, r1, a2, r3, r4, r5, r6, a7], false⟩) [w] (wakeL 0 1 0 ss).2 al el (k + 1) 1 from rfl)
      have hwk : ss = [] ∧ (wakeL 0 1 0 ss).2 = [] ∨ ∃ s0 rest, ss = s0 :: rest ∧ (wakeL 0 1 0 ss).2 = rest := by
        cases hs : ss with
        | nil => exact .inl ⟨rfl, rfl⟩
        | cons s0 rest =>
          refine .inr ⟨s0, rest, rfl, ?_⟩
          rw [wakeL, if_pos ⟨(h.sl s0 (by show s0 ∈ ss; rw [hs]; simp)).1, by decide⟩]
          exact wakeL_over 0 1 rest 1 (by decide)
      have hH : mutH ⟨23 * j + 22, [a0, r1, a2, r3, r4, r5, r6, a7], false⟩ = decide (w ≠ 0 ∧ t = t0) := by rw [← hho, mutH_at (by decide), mutH_at (by decide)]; rfl
      rcases hwk with ⟨rfl, hk2⟩ | ⟨s0, rest, rfl, hk2⟩
      · rw [hk2] at e1
        refine ⟨w, t0, mut_upd h hx hno (d := 0) e1 (.inl ⟨rfl, rfl⟩) hw (.inr ⟨j, 22, _, _, _, _, _, _, _, _, rfl, .inl ⟨hjc, by decide, trivial⟩⟩) hH (fun _ _ => Iff.rfl) h.tl (fun s hs => .inl hs) (fun hne => absurd rfl hne) hfo (by rw [mutE_at (by decide), mutE_at (by decide)]; rfl) ?_⟩
        rw [mutR_at hjc (by decide), mutR_at hjc (by decide)]
        show 226 * (c - j - 1) + 1 + 1 + 5 * 0 + heldN w + 7 * 0 + 1 ≤ 226 * (c - j - 1) + 7 + 1 + 5 * 0 + heldN w
        omega
      · rw [hk2] at e1
        have hs0 := h.wf.ss.2 s0 (by simp)
        have hsl0 := (h.sl s0 (by simp)).2
        have hnd := h.wf.ss.1
        rw [List.map_cons, List.nodup_cons] at hnd
        obtain ⟨y, hy⟩ : ∃ y, ts[s0.t.toNat]? = some y := ⟨_, List.getElem?_eq_getElem (by have := hs0.2.1; dsimp only at this; omega)⟩
        obtain ⟨hy1, hy2⟩ := hsl0 y hy
        refine ⟨w, t0, mut_upd h hx hno (d := 0) e1 (.inl ⟨rfl, rfl⟩) hw (.inr ⟨j, 22, _, _, _, _, _, _, _, _, rfl, .inl ⟨hjc, by decide, trivial⟩⟩) hH (fun _ _ => Iff.rfl) h.tl (fun s hs => .inl (by simp [hs])) (fun hne => .inr (.inr ⟨s0.t.toNat, y, fun he => ?_, hy, ?_, fun s hs he => ?_⟩)) hfo (by rw [mutE_at (by decide), mutE_at (by decide)]; rfl) ?_⟩
        · exact hno s0 (by simp) (by omega)
        · rw [mutC, hy2, if_neg (by decide), hy1]; rfl
        · exact hnd.1 (List.mem_map.2 ⟨s, hs, by omega⟩)
        · rw [mutR_at hjc (by decide), mutR_at hjc (by decide), List.length_cons]
          show 226 * (c - j - 1) + 1 + 1 + 5 * (rest.length + 1) + heldN w + 7 * 0 + 1 ≤ 226 * (c - j - 1) + 7 + 1 + 5 * rest.length + heldN w
          omega
    · have hi := repP_get mutB (j := j) (n := c) (o := 22) (by decide) hjc
      refine ⟨w, t0, mut_same h hx hno (x' := ⟨23 * j + 23, [a0, r1, a2, r3, r4, r5, r6, a7], false⟩) (al' := al) (el' := el ++ [⟨(k + 1 : Nat), 3, t, IntKind.i64.wrap r1⟩]) ((can_go hc hk hx hp hi).trans rfl) (.inl rfl) (.inr ⟨j + 1, 0, _, _, _, _, _, _, _, _, rfl, ?_⟩) ?_ (.inr (by rw [mutC_at (by decide)]; rfl)) ?_ ?_⟩
      · by_cases h' : j + 1 < c
        · exact .inl ⟨h', by decide, trivial⟩
        · exact .inr ⟨by omega, rfl⟩
      · show mutH ⟨23 * (j + 1) + 0, [a0, r1, a2, r3, r4, r5, r6, a7], false⟩ = _
        rw [mutH_at (by decide), mutH_at (by decide)]; rfl
      · show _ = _ + mutE c ⟨23 * (j + 1) + 0, [a0, r1, a2, r3, r4, r5, r6, a7], false⟩
        rw [mutE_at (by decide), mutE_at (by decide), List.length_append]
        show el.length + 1 + (2 * j + 1) = el.length + (2 * (j + 1) + 0)
        omega
      · have := mutR_next (w := w) hjc [a0, r1, a2, r3, r4, r5, r6, a7]
        rw [mutR_at (w := w) hjc (o := 22) (by decide) [a0, r1, a2, r3, r4, r5, r6, a7]]
        show _ ≤ 226 * (c - j - 1) + 1 + 1
        omega
  · have hi := repP_halt mutB j
    refine ⟨w, t0, mut_same h hx hno (x' := ⟨23 * j + 1, [a0, r1, a2, r3, r4, r5, r6, a7], true⟩) (al' := al) (el' := el) ((can_go hc hk hx hp hi).trans set2) (.inl rfl) (.inl rfl) ?_ (.inr (by rw [mutC_at (by decide)]; rfl)) ?_ ?_⟩
    · rw [mutH_at (by decide)]; rfl
    · rw [mutE_at (by decide)]; rfl
    · rw [mutR, mutR]
      dsimp only
      rw [if_pos rfl, if_neg (by decide), if_neg (by omega)]
      exact Nat.le_refl 1

end Go.Mac
