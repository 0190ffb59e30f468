/- Done once: what holds of a machine whose threads ask for it, whoever goes on when. -/
import Derived.Test.YtondghnbecnpiaaDoorQSys
open Go Go.Proofs Go.Mac
set_option maxRecDepth 100000
namespace Go.Mac

abbrev onceB : List InsZ := [⟨1, 5, 0, 0, 0⟩, ⟨1, 6, 1, 0, 0⟩, ⟨1, 4, 2, 0, 0⟩, ⟨9, 3, 0, 5, 6⟩, ⟨11, 3, 0, 9, 0⟩, ⟨8, 1, 1, 1, 0⟩, ⟨7, 0, 4, -1, 0⟩, ⟨15, 0, 16, -1, 0⟩, ⟨10, 13, 0, 0, 0⟩, ⟨6, 1, 0, 0, 0⟩, ⟨13, 1, 4, 13, 0⟩, ⟨14, 0, 1, 0, 0⟩, ⟨10, 9, 0, 0, 0⟩, ⟨16, 3, 3, 0, 0⟩]

/-- What a thread has within a call. -/
def onceOk (w : Int) (o : Nat) (r1 r3 r4 r5 r6 : Int) : Prop :=
  match o with
  | 0 => True
  | 1 => r5 = 0
  | 2 => r5 = 0 ∧ r6 = 1
  | 3 => r5 = 0 ∧ r6 = 1 ∧ r4 = 2
  | 4 => r4 = 2 ∧ (r3 = 0 ∨ r3 = 1) ∧ w ≠ 0
  | 5 => r4 = 2 ∧ r3 = 1 ∧ w ≠ 0
  | 6 => r4 = 2 ∧ r3 = 1 ∧ w ≠ 0
  | 7 => r3 = 1 ∧ w = 2
  | 8 => r3 = 1 ∧ w = 2
  | 9 => r4 = 2 ∧ r3 = 0 ∧ w ≠ 0
  | 10 => r4 = 2 ∧ r3 = 0 ∧ (r1 = 1 ∨ r1 = 2 ∧ w = 2) ∧ w ≠ 0
  | 11 => r4 = 2 ∧ r3 = 0 ∧ r1 = 1 ∧ w ≠ 0
  | 12 => r4 = 2 ∧ r3 = 0 ∧ r1 = 1 ∧ w ≠ 0
  | 13 => (r3 = 0 ∨ r3 = 1) ∧ w = 2
  | _ => False

/-- A thread of c calls. -/
def OnceT (w : Int) (c : Nat) (x : ThZ) : Prop :=
  (x.dn = true ∧ (0 < c → w ≠ 0)) ∨ ∃ (j o : Nat) (a0 r1 a2 r3 r4 r5 r6 a7 : Int), x = ⟨14 * j + o, [a0, r1, a2, r3, r4, r5, r6, a7], false⟩ ∧ (0 < j → w ≠ 0) ∧ (j < c ∧ o < 14 ∧ onceOk w o r1 r3 r4 r5 r6 ∨ j = c ∧ o = 0)

def onceS0 (o : Nat) (r3 : Int) : Nat :=
  match o with
  | 4 => if r3 = 1 then 4 else 0
  | 5 => 5
  | 6 => 6
  | 7 => 7
  | 8 => 8
  | 13 => if r3 = 1 then 13 else 0
  | _ => 0

/-- Where the one is that does it; 0: another one. -/
def onceS (x : ThZ) : Nat := if x.dn = true then 0 else onceS0 (x.pc % 14) (rgZ x.rg 3)

/-- What is left to do within a call, at most. -/
def onceL (w : Int) (o : Nat) (r1 : Int) : Nat :=
  match o with
  | 0 => 48
  | 1 => 47
  | 2 => 46
  | 3 => 45
  | 4 => 44
  | 5 => 43
  | 6 => 42
  | 7 => 41
  | 8 => 2
  | 9 => if w = 2 then 3 else 7
  | 10 => if w = 2 ∧ r1 = 2 then 2 else 6
  | 11 => 5
  | 12 => if w = 2 then 4 else 8
  | _ => 1

def onceR (w : Int) (c : Nat) (x : ThZ) : Nat :=
  if x.dn = true then 0 else if x.pc / 14 < c then 48 * (c - x.pc / 14 - 1) + onceL w (x.pc % 14) (rgZ x.rg 1) + 1 else 1

/-- When the last store was. -/
def stW : List ActZ → Option Int
  | [] => none
  | a :: l => match stW l with
    | some s => some s
    | none => if a.o = 7 then some a.w else none
/-- How often it was fetched. -/
def fetN (l : List ActZ) : Nat := (l.filter fun a => a.o == 8).length

theorem stW_snoc (l : List ActZ) (a : ActZ) : stW (l ++ [a]) = if a.o = 7 then some a.w else stW l := by
  induction l with
  | nil => rfl
  | cons b l ih =>
    rw [List.cons_append, stW, ih, stW]
    by_cases h : a.o = 7
    · simp [h]
    · simp [h]

theorem fetN_snoc (l : List ActZ) (a : ActZ) : fetN (l ++ [a]) = fetN l + if a.o = 8 then 1 else 0 := by
  rw [fetN, List.filter_append, List.length_append, fetN]
  by_cases h : a.o = 8 <;> simp [h]

/-- What holds of the cells, of who sleeps and of what was noted, by where the one is that does it: 0: nobody yet; 14: it said so. -/
structure OnceF (q : Nat) (w0 w1 : Int) (ss : List Slp) (al : List ActZ) (el : List EvZ) (k : Nat) : Prop where
  hq : q = 0 ∨ q = 4 ∨ q = 5 ∨ q = 6 ∨ q = 7 ∨ q = 8 ∨ q = 13 ∨ q = 14
  hw0 : w0 = if q = 0 then 0 else if q < 7 then 1 else 2
  hw1 : w1 = if q < 6 then 0 else 1
  hss : ss ≠ [] → 4 ≤ q ∧ q ≤ 7
  fet : (fetN al : Int) = w1
  st0 : q < 7 → stW al = none
  st1 : 7 ≤ q → ∃ s : Int, stW al = some s ∧ 0 ≤ s ∧ s ≤ k
  ev : ∀ e ∈ el, (∃ s : Int, stW al = some s ∧ s < e.w) ∧ (e.v = 0 ∨ e.v = 1)
  mine : (el.map (·.v)).sum = if q = 14 then 1 else 0

def onceQ (t0 q s : Nat) : Nat := if s = t0 ∧ q ≠ 14 then q else 0

structure OnceJ (B : Nat) (cs : List Nat) (w0 w1 : Int) (q t0 : Nat) (m : MZ) : Prop where
  wf : WF m
  ps : m.ps = cs.map (repP onceB)
  n : cs.length ≤ 8
  ws : m.ws = [w0, w1]
  th : ∀ (t : Nat) (x : ThZ) (c : Nat), m.ts[t]? = some x → cs[t]? = some c → OnceT w0 c x
  sl : ∀ s ∈ m.ss, s.c = 0 ∧ ∀ x, m.ts[s.t.toNat]? = some x → x.pc % 14 = 12 ∧ x.dn = false
  st : ∀ (t : Nat) (x : ThZ), m.ts[t]? = some x → onceS x = onceQ t0 q t
  t0 : q ≠ 0 → t0 < m.ts.length ∧ 0 < cs.getD t0 0
  f : OnceF q w0 w1 m.ss m.al m.el m.k
  pot : m.k + (rsum m.ts.length (fun t => onceR w0 (cs.getD t 0) (thZ m t)) + 4 * (m.ts.length - m.ss.length)) ≤ B

theorem onceS_at {j o : Nat} (ho : o < 14) (rg : List Int) : onceS ⟨14 * j + o, rg, false⟩ = onceS0 o (rgZ rg 3) := by
  rw [onceS]
  dsimp only
  rw [show (14 * j + o) % 14 = o by omega]
  rfl

theorem onceR_at {w : Int} {c j o : Nat} (hj : j < c) (ho : o < 14) (rg : List Int) : onceR w c ⟨14 * j + o, rg, false⟩ = 48 * (c - j - 1) + onceL w o (rgZ rg 1) + 1 := by
  rw [onceR]
  dsimp only
  rw [show (14 * j + o) % 14 = o by omega, show (14 * j + o) / 14 = j by omega, if_neg (by decide), if_pos hj]

theorem onceR_next {w : Int} {c j : Nat} (hj : j < c) (rg : List Int) : onceR w c ⟨14 * j + 14, rg, false⟩ = 48 * (c - j - 1) + 1 := by
  rw [onceR]
  dsimp only
  rw [show (14 * j + 14) % 14 = 0 by omega, show (14 * j + 14) / 14 = j + 1 by omega, if_neg (by decide)]
  split
  · show 48 * (c - (j + 1) - 1) + 48 + 1 = _
    omega
  · omega

theorem onceS_next {j : Nat} (rg : List Int) : onceS ⟨14 * j + 14, rg, false⟩ = 0 := by
  rw [onceS]
  dsimp only
  rw [show (14 * j + 14) % 14 = 0 by omega]
  rfl

theorem OnceF.k {q : Nat} {w0 w1 : Int} {ss : List Slp} {al : List ActZ} {el : List EvZ} {k : Nat} (h : OnceF q w0 w1 ss al el k) : OnceF q w0 w1 ss al el (k + 1) :=
  ⟨h.hq, h.hw0, h.hw1, h.hss, h.fet, h.st0, fun hq => by obtain ⟨s, h1, h2, h3⟩ := h.st1 hq; exact ⟨s, h1, h2, by omega⟩, h.ev, h.mine⟩

theorem OnceF.act {q : Nat} {w0 w1 : Int} {ss : List Slp} {al : List ActZ} {el : List EvZ} {k : Nat} (h : OnceF q w0 w1 ss al el k) (a : ActZ) (h7 : a.o ≠ 7) (h8 : a.o ≠ 8) : OnceF q w0 w1 ss (al ++ [a]) el k := by
  have e1 : stW (al ++ [a]) = stW al := by rw [stW_snoc, if_neg h7]
  have e2 : fetN (al ++ [a]) = fetN al := by rw [fetN_snoc, if_neg h8]; rfl
  exact ⟨h.hq, h.hw0, h.hw1, h.hss, by rw [e2]; exact h.fet, by rw [e1]; exact h.st0, by rw [e1]; exact h.st1, by rw [e1]; exact h.ev, h.mine⟩

theorem set2 {ps : List (List InsZ)} {ts : List ThZ} {t : Nat} {a b : ThZ} {ws : List Int} {ss : List Slp} {al : List ActZ} {el : List EvZ} {k nc : Nat} :
    MZ.mk ps ((ts.set t a).set t b) ws ss al el k nc = MZ.mk ps (ts.set t b) ws ss al el k nc := by rw [List.set_set]

theorem onceL_mono {w w' : Int} (h : w' = w ∨ w = 0 ∧ w' = 1 ∨ w = 1 ∧ w' = 2) (o : Nat) (r : Int) : onceL w' o r ≤ onceL w o r := by
  unfold onceL
  split <;> first | exact Nat.le_refl _ | (rcases h with rfl | ⟨rfl, rfl⟩ | ⟨rfl, rfl⟩ <;> (try split) <;> (try split) <;> simp_all)

theorem onceR_mono {w w' : Int} (h : w' = w ∨ w = 0 ∧ w' = 1 ∨ w = 1 ∧ w' = 2) (c : Nat) (x : ThZ) : onceR w' c x ≤ onceR w c x := by
  unfold onceR
  have := onceL_mono h (x.pc % 14) (rgZ x.rg 1)
  split
  · exact Nat.le_refl _
  · split <;> omega

theorem onceT_mono {w w' : Int} (h : w' = w ∨ w = 0 ∧ w' = 1 ∨ w = 1 ∧ w' = 2) {c : Nat} {x : ThZ} (hx : OnceT w c x) : OnceT w' c x := by
  have hw : w ≠ 0 → w' ≠ 0 := by omega
  have hw2 : w = 2 → w' = 2 := by omega
  rcases hx with ⟨h1, h2⟩ | ⟨j, o, a0, r1, a2, r3, r4, r5, r6, a7, h1, h2, h3⟩
  · exact .inl ⟨h1, fun hc => hw (h2 hc)⟩
  · refine .inr ⟨j, o, a0, r1, a2, r3, r4, r5, r6, a7, h1, fun hj => hw (h2 hj), ?_⟩
    rcases h3 with ⟨h3, h4, h5⟩ | h3
    · refine .inl ⟨h3, h4, ?_⟩
      unfold onceOk at h5 ⊢
      split at h5 <;> first | exact h5 | omega
    · exact .inr h3

theorem once_upd {B : Nat} {cs : List Nat} {w0 w1 : Int} {q t0 : Nat} {m : MZ} (h : OnceJ B cs w0 w1 q t0 m) {t : Nat} {x : ThZ} {c : Nat} (hx : m.ts[t]? = some x) (hc : cs[t]? = some c) (hno : noT m.ss t)
    {x' : ThZ} {w0' w1' : Int} {q' t0' : Nat} {ss' : List Slp} {al' : List ActZ} {el' : List EvZ} (e : (stepZ m t).2 = ⟨m.ps, m.ts.set t x', [w0', w1'], ss', al', el', m.k + 1, m.nc⟩)
    (hw : w0' = w0 ∨ w0 = 0 ∧ w0' = 1 ∨ w0 = 1 ∧ w0' = 2) (hT : OnceT w0' c x') (hS : onceS x' = onceQ t0' q' t) (hq : ∀ s, s ≠ t → onceQ t0 q s = onceQ t0' q' s) (ht0 : q' ≠ 0 → t0' < m.ts.length ∧ 0 < cs.getD t0' 0)
    (hss : ∀ s ∈ ss', s ∈ m.ss ∨ s = ⟨t, 0⟩ ∧ x'.pc % 14 = 12 ∧ x'.dn = false) (hF : OnceF q' w0' w1' ss' al' el' (m.k + 1)) (hp : onceR w0' c x' + 4 * m.ss.length + 1 ≤ onceR w0 c x + 4 * ss'.length) :
    OnceJ B cs w0' w1' q' t0' (stepZ m t).2 := by
  have hlt := (List.getElem?_eq_some_iff.1 hx).1
  have hwf := h.wf.step t
  rw [e] at hwf ⊢
  have hln : (m.ts.set t x').length = m.ts.length := List.length_set
  refine ⟨hwf, h.ps, h.n, rfl, fun s y d hy hd => ?_, fun s hs => ?_, fun s y hy => ?_, fun hq0 => by rw [hln]; exact ht0 hq0, hF, ?_⟩
  · rcases ts_set hlt hy with ⟨rfl, rfl⟩ | ⟨hne, hy⟩
    · rw [hc] at hd; obtain rfl := Option.some.inj hd
      exact hT
    · exact onceT_mono hw (h.th s y d hy hd)
  · rcases hss s hs with hs' | ⟨rfl, h1, h2⟩
    · obtain ⟨h1, h2⟩ := h.sl s hs'
      refine ⟨h1, fun y hy => ?_⟩
      rcases ts_set hlt hy with ⟨he, rfl⟩ | ⟨hne, hy⟩
      · exfalso
        have := h.wf.ss.2 s hs'
        exact hno s hs' (by omega)
      · exact h2 y hy
    · refine ⟨rfl, fun y hy => ?_⟩
      rcases ts_set hlt hy with ⟨he, rfl⟩ | ⟨hne, hy⟩
      · exact ⟨h1, h2⟩
      · exact absurd (Int.toNat_natCast t) hne
  · rcases ts_set hlt hy with ⟨rfl, rfl⟩ | ⟨hne, hy⟩
    · exact hS
    · rw [h.st s y hy]; exact hq s hne
  · have hpot := h.pot
    have hl1 := ss_len h.wf
    have hl2 := ss_len hwf
    dsimp only at hl2 ⊢
    rw [hln] at hl2 ⊢
    have hsum := rsum_upd (n := m.ts.length) (t := t) (g := fun s => onceR w0' (cs.getD s 0) (thZ ⟨m.ps, m.ts.set t x', [w0', w1'], ss', al', el', m.k + 1, m.nc⟩ s)) (h := fun s => onceR w0 (cs.getD s 0) (thZ m s)) hlt fun s hs hne => by
      have : thZ ⟨m.ps, m.ts.set t x', [w0', w1'], ss', al', el', m.k + 1, m.nc⟩ s = thZ m s := by
        rw [thZ, thZ, List.getD_eq_getElem?_getD, List.getD_eq_getElem?_getD, List.getElem?_set_ne (fun h => hne h.symm)]
      rw [this]
      exact onceR_mono hw _ _
    have e1 : thZ ⟨m.ps, m.ts.set t x', [w0', w1'], ss', al', el', m.k + 1, m.nc⟩ t = x' := by
      rw [thZ, List.getD_eq_getElem?_getD, List.getElem?_set_self hlt]; rfl
    have e2 : cs.getD t 0 = c := by rw [List.getD_eq_getElem?_getD, hc]; rfl
    rw [e1, thZ_get hx, e2] at hsum
    omega

theorem once_lt {a b b' : Nat} (h : b + 1 ≤ b') : a + b + 1 + 1 ≤ a + b' + 1 := by omega
theorem once_lt2 {a b b' s s' : Nat} (h : b + s + 1 ≤ b' + s') : a + b + 1 + s + 1 ≤ a + b' + 1 + s' := by omega

theorem onceQ_eq {t0 q t v : Nat} (h : onceQ t0 q t = v) (hv : v ≠ 0) : t = t0 ∧ q = v := by
  rw [onceQ] at h
  split at h
  · rename_i h'; exact ⟨h'.1, h⟩
  · exact absurd h.symm hv

theorem once_same {B : Nat} {cs : List Nat} {w0 w1 : Int} {q t0 : Nat} {m : MZ} (h : OnceJ B cs w0 w1 q t0 m) {t : Nat} {x : ThZ} {c : Nat} (hx : m.ts[t]? = some x) (hc : cs[t]? = some c) (hno : noT m.ss t)
    {x' : ThZ} {al' : List ActZ} (e : (stepZ m t).2 = ⟨m.ps, m.ts.set t x', m.ws, m.ss, al', m.el, m.k + 1, m.nc⟩) (hal : al' = m.al ∨ ∃ a : ActZ, a.o ≠ 7 ∧ a.o ≠ 8 ∧ al' = m.al ++ [a])
    (hT : OnceT w0 c x') (hS : onceS x' = onceS x) (hp : onceR w0 c x' + 1 ≤ onceR w0 c x) : OnceJ B cs w0 w1 q t0 (stepZ m t).2 := by
  rw [h.ws] at e
  refine once_upd h hx hc hno e (.inl rfl) hT (hS.trans (h.st t x hx)) (fun _ _ => rfl) h.t0 (fun s hs => .inl hs) ?_ (by omega)
  rcases hal with rfl | ⟨a, h1, h2, rfl⟩
  · exact h.f.k
  · exact (h.f.act a h1 h2).k

theorem once_step {B : Nat} {cs : List Nat} {w0 w1 : Int} {q t0 : Nat} {m : MZ} (h : OnceJ B cs w0 w1 q t0 m) {t : Nat} (hc : canZ m t = true) (hk : m.k < 20000) : ∃ (w0' w1' : Int) (q' t0' : Nat), OnceJ B cs w0' w1' q' t0' (stepZ m t).2 := by
  obtain ⟨x, hx, hd, hno⟩ := can_out hc
  have hlt := (List.getElem?_eq_some_iff.1 hx).1
  have hnn : cs.length = m.ts.length := by have := h.wf.ps; rw [h.ps, List.length_map] at this; exact this
  obtain ⟨c, hcc⟩ : ∃ c, cs[t]? = some c := ⟨_, List.getElem?_eq_getElem (by omega)⟩
  have hp : m.ps[t]? = some (repP onceB c) := by rw [h.ps, List.getElem?_map, hcc]; rfl
  have hst := h.st t x hx
  have hsl := ss_len h.wf
  have hn8 := h.n
  obtain ⟨ps, ts, ws, ss, al, el, k, nc⟩ := m
  obtain rfl : ws = [w0, w1] := h.ws
  obtain rfl : 2 = nc := h.wf.nc
  have hF := h.f
  dsimp only at hx hst hlt hp hno hk hF hsl hnn
  rcases h.th t x c hx hcc with ⟨h1, _⟩ | ⟨j, o, a0, r1, a2, r3, r4, r5, r6, a7, rfl, hj, h3⟩
  · rw [hd] at h1; cases h1
  rcases h3 with ⟨hjc, ho, hok⟩ | ⟨rfl, rfl⟩
  · have hlt2 : t < ts.length ∧ 0 < cs.getD t 0 := ⟨hlt, by rw [List.getD_eq_getElem?_getD, hcc]; exact Nat.lt_of_le_of_lt (Nat.zero_le _) hjc⟩
    have hw12 : w0 ≠ 0 → w0 = 1 ∨ w0 = 2 := fun h0 => by
      have := hF.hw0
      split at this
      · exact absurd this h0
      · split at this <;> simp [this]
    rcases (show o = 0 ∨ o = 1 ∨ o = 2 ∨ o = 3 ∨ o = 4 ∨ o = 5 ∨ o = 6 ∨ o = 7 ∨ o = 8 ∨ o = 9 ∨ o = 10 ∨ o = 11 ∨ o = 12 ∨ o = 13 by omega) with rfl | rfl | rfl | rfl | rfl | rfl | rfl | rfl | rfl | rfl | rfl | rfl | rfl | rfl
    · have hi := repP_get onceB (j := j) (n := c) (o := 0) (by decide) hjc
      refine ⟨w0, w1, q, t0, once_same h hx hcc hno (x' := ⟨14 * j + 1, [a0, r1, a2, r3, r4, 0, r6, a7], false⟩) (al' := al) ((can_go hc hk hx hp hi).trans set2) (.inl rfl) (.inr ⟨j, 1, _, _, _, _, _, _, _, _, rfl, hj, .inl ⟨hjc, by decide, rfl⟩⟩) ?_ ?_⟩
      · rw [onceS_at (by decide), onceS_at (by decide)]; rfl
      · rw [onceR_at hjc (by decide), onceR_at hjc (by decide)]
        exact once_lt (Nat.le_of_ble_eq_true rfl)
    · have hi := repP_get onceB (j := j) (n := c) (o := 1) (by decide) hjc
      obtain rfl : r5 = 0 := hok
      refine ⟨w0, w1, q, t0, once_same h hx hcc hno (x' := ⟨14 * j + 2, [a0, r1, a2, r3, r4, 0, 1, a7], false⟩) (al' := al) ((can_go hc hk hx hp hi).trans set2) (.inl rfl) (.inr ⟨j, 2, _, _, _, _, _, _, _, _, rfl, hj, .inl ⟨hjc, by decide, ⟨rfl, rfl⟩⟩⟩) ?_ ?_⟩
      · rw [onceS_at (by decide), onceS_at (by decide)]; rfl
      · rw [onceR_at hjc (by decide), onceR_at hjc (by decide)]
        exact once_lt (Nat.le_of_ble_eq_true rfl)
    · have hi := repP_get onceB (j := j) (n := c) (o := 2) (by decide) hjc
      obtain ⟨rfl, rfl⟩ : r5 = 0 ∧ r6 = 1 := hok
      refine ⟨w0, w1, q, t0, once_same h hx hcc hno (x' := ⟨14 * j + 3, [a0, r1, a2, r3, 2, 0, 1, a7], false⟩) (al' := al) ((can_go hc hk hx hp hi).trans set2) (.inl rfl) (.inr ⟨j, 3, _, _, _, _, _, _, _, _, rfl, hj, .inl ⟨hjc, by decide, ⟨rfl, rfl, rfl⟩⟩⟩) ?_ ?_⟩
      · rw [onceS_at (by decide), onceS_at (by decide)]; rfl
      · rw [onceR_at hjc (by decide), onceR_at hjc (by decide)]
        exact once_lt (Nat.le_of_ble_eq_true rfl)
    · have hi := repP_get onceB (j := j) (n := c) (o := 3) (by decide) hjc
      obtain ⟨rfl, rfl, rfl⟩ : r5 = 0 ∧ r6 = 1 ∧ r4 = 2 := hok
      by_cases h0 : w0 = 0
      · subst h0
        obtain rfl : q = 0 := by
          have := hF.hw0
          split at this
          · assumption
          · split at this <;> cases this
        obtain rfl : w1 = 0 := hF.hw1
        refine ⟨1, 0, 4, t, once_upd h hx hcc hno (x' := ⟨14 * j + 4, [a0, r1, a2, 1, 2, 0, 1, a7], false⟩) (w0' := 1) (w1' := 0) (ss' := ss) (al' := al ++ [⟨(k + 1 : Nat), t, 9, 0, 0, 1⟩]) (el' := el) ((can_go hc hk hx hp hi).trans set2) (.inr (.inl ⟨rfl, rfl⟩))
          (.inr ⟨j, 4, _, _, _, _, _, _, _, _, rfl, fun _ => by decide, .inl ⟨hjc, by decide, ⟨rfl, .inr rfl, by decide⟩⟩⟩) ?_ (fun s hs => ?_) (fun _ => hlt2) (fun s hs => .inl hs) (OnceF.act ⟨.inr (.inl rfl), rfl, rfl, fun _ => by decide, hF.fet, fun _ => hF.st0 (by decide), fun h => absurd h (by decide), hF.ev, hF.mine⟩ _ (show (9 : Int) ≠ 7 by decide) (show (9 : Int) ≠ 8 by decide)) ?_⟩
        · rw [onceS_at (by decide), onceQ, if_pos ⟨rfl, by decide⟩]; rfl
        · have e0 : onceQ t0 0 s = 0 := by rw [onceQ]; split <;> rfl
          rw [e0, onceQ, if_neg (fun h => hs h.1)]
        · rw [onceR_at hjc (by decide), onceR_at hjc (by decide)]
          exact once_lt2 (by show 44 + 4 * ss.length + 1 ≤ 45 + 4 * ss.length; omega)
      · rcases hw12 h0 with rfl | rfl
        · refine ⟨1, w1, q, t0, once_same h hx hcc hno (x' := ⟨14 * j + 4, [a0, r1, a2, 0, 2, 0, 1, a7], false⟩) (al' := al ++ [⟨(k + 1 : Nat), t, 9, 0, 1, 1⟩]) ((can_go hc hk hx hp hi).trans set2) (.inr ⟨_, show (9 : Int) ≠ 7 by decide, show (9 : Int) ≠ 8 by decide, rfl⟩) (.inr ⟨j, 4, _, _, _, _, _, _, _, _, rfl, hj, .inl ⟨hjc, by decide, ⟨rfl, .inl rfl, by decide⟩⟩⟩) ?_ ?_⟩
          · rw [onceS_at (by decide), onceS_at (by decide)]; rfl
          · rw [onceR_at hjc (by decide), onceR_at hjc (by decide)]
            exact once_lt (Nat.le_of_ble_eq_true rfl)
        · refine ⟨2, w1, q, t0, once_same h hx hcc hno (x' := ⟨14 * j + 4, [a0, r1, a2, 0, 2, 0, 1, a7], false⟩) (al' := al ++ [⟨(k + 1 : Nat), t, 9, 0, 2, 2⟩]) ((can_go hc hk hx hp hi).trans set2) (.inr ⟨_, show (9 : Int) ≠ 7 by decide, show (9 : Int) ≠ 8 by decide, rfl⟩) (.inr ⟨j, 4, _, _, _, _, _, _, _, _, rfl, hj, .inl ⟨hjc, by decide, ⟨rfl, .inl rfl, by decide⟩⟩⟩) ?_ ?_⟩
          · rw [onceS_at (by decide), onceS_at (by decide)]; rfl
          · rw [onceR_at hjc (by decide), onceR_at hjc (by decide)]
            exact once_lt (Nat.le_of_ble_eq_true rfl)
    · have hi := repP_get onceB (j := j) (n := c) (o := 4) (by decide) hjc
      obtain ⟨rfl, h3, h0⟩ : r4 = 2 ∧ (r3 = 0 ∨ r3 = 1) ∧ w0 ≠ 0 := hok
      rcases h3 with rfl | rfl
      · rcases hw12 h0 with rfl | rfl
        · refine ⟨1, w1, q, t0, once_same h hx hcc hno (x' := ⟨14 * j + 9, [a0, r1, a2, 0, 2, r5, r6, a7], false⟩) (al' := al) ((can_go hc hk hx hp hi).trans set2) (.inl rfl) (.inr ⟨j, 9, _, _, _, _, _, _, _, _, rfl, hj, .inl ⟨hjc, by decide, ⟨rfl, rfl, by decide⟩⟩⟩) ?_ ?_⟩
          · rw [onceS_at (by decide), onceS_at (by decide)]; rfl
          · rw [onceR_at hjc (by decide), onceR_at hjc (by decide)]
            exact once_lt (Nat.le_of_ble_eq_true rfl)
        · refine ⟨2, w1, q, t0, once_same h hx hcc hno (x' := ⟨14 * j + 9, [a0, r1, a2, 0, 2, r5, r6, a7], false⟩) (al' := al) ((can_go hc hk hx hp hi).trans set2) (.inl rfl) (.inr ⟨j, 9, _, _, _, _, _, _, _, _, rfl, hj, .inl ⟨hjc, by decide, ⟨rfl, rfl, by decide⟩⟩⟩) ?_ ?_⟩
          · rw [onceS_at (by decide), onceS_at (by decide)]; rfl
          · rw [onceR_at hjc (by decide), onceR_at hjc (by decide)]
            exact once_lt (Nat.le_of_ble_eq_true rfl)
      · rw [onceS_at (by decide)] at hst
        obtain ⟨rfl, rfl⟩ : t = t0 ∧ q = 4 := onceQ_eq (v := 4) hst.symm (by decide)
        obtain rfl : w0 = 1 := hF.hw0
        obtain rfl : w1 = 0 := hF.hw1
        refine ⟨1, 0, 5, t, once_upd h hx hcc hno (x' := ⟨14 * j + 5, [a0, r1, a2, 1, 2, r5, r6, a7], false⟩) (w0' := 1) (w1' := 0) (ss' := ss) (al' := al) (el' := el) ((can_go hc hk hx hp hi).trans set2) (.inl rfl)
          (.inr ⟨j, 5, _, _, _, _, _, _, _, _, rfl, fun _ => by decide, .inl ⟨hjc, by decide, ⟨rfl, rfl, by decide⟩⟩⟩) ?_ (fun s hs => ?_) (fun _ => hlt2) (fun s hs => .inl hs) (OnceF.k ⟨.inr (.inr (.inl rfl)), rfl, rfl, fun _ => by decide, hF.fet, fun _ => hF.st0 (by decide), fun h => absurd h (by decide), hF.ev, hF.mine⟩) ?_⟩
        · rw [onceS_at (by decide), onceQ, if_pos ⟨rfl, by decide⟩]; rfl
        · rw [onceQ, onceQ, if_neg (fun h => hs h.1), if_neg (fun h => hs h.1)]
        · rw [onceR_at hjc (by decide), onceR_at hjc (by decide)]
          exact once_lt2 (by show 43 + 4 * ss.length + 1 ≤ 44 + 4 * ss.length; omega)
    · have hi := repP_get onceB (j := j) (n := c) (o := 5) (by decide) hjc
      obtain ⟨rfl, rfl, h0⟩ : r4 = 2 ∧ r3 = 1 ∧ w0 ≠ 0 := hok
      rw [onceS_at (by decide)] at hst
      obtain ⟨rfl, rfl⟩ : t = t0 ∧ q = 5 := onceQ_eq (v := 5) hst.symm (by decide)
      obtain rfl : w0 = 1 := hF.hw0
      obtain rfl : w1 = 0 := hF.hw1
      refine ⟨1, 1, 6, t, once_upd h hx hcc hno (x' := ⟨14 * j + 6, [a0, 0, a2, 1, 2, r5, r6, a7], false⟩) (w0' := 1) (w1' := 1) (ss' := ss) (al' := al ++ [⟨(k + 1 : Nat), t, 8, 1, 0, 1⟩]) (el' := el) ((can_go hc hk hx hp hi).trans set2) (.inl rfl)
        (.inr ⟨j, 6, _, _, _, _, _, _, _, _, rfl, fun _ => by decide, .inl ⟨hjc, by decide, ⟨rfl, rfl, by decide⟩⟩⟩) ?_ (fun s hs => ?_) (fun _ => hlt2) (fun s hs => .inl hs) ⟨.inr (.inr (.inr (.inl rfl))), rfl, rfl, fun _ => by decide, by rw [fetN_snoc]; have := hF.fet; show ((fetN al + 1 : Nat) : Int) = 1; omega, fun _ => by rw [stW_snoc]; exact hF.st0 (by decide), fun h => absurd h (by decide), (fun e he => by obtain ⟨⟨s, hs, _⟩, _⟩ := hF.ev e he; rw [hF.st0 (by decide)] at hs; cases hs), hF.mine⟩ ?_⟩
      · rw [onceS_at (by decide), onceQ, if_pos ⟨rfl, by decide⟩]; rfl
      · rw [onceQ, onceQ, if_neg (fun h => hs h.1), if_neg (fun h => hs h.1)]
      · rw [onceR_at hjc (by decide), onceR_at hjc (by decide)]
        exact once_lt2 (by show 42 + 4 * ss.length + 1 ≤ 43 + 4 * ss.length; omega)
    · have hi := repP_get onceB (j := j) (n := c) (o := 6) (by decide) hjc
      obtain ⟨rfl, rfl, h0⟩ : r4 = 2 ∧ r3 = 1 ∧ w0 ≠ 0 := hok
      rw [onceS_at (by decide)] at hst
      obtain ⟨rfl, rfl⟩ : t = t0 ∧ q = 6 := onceQ_eq (v := 6) hst.symm (by decide)
      obtain rfl : w0 = 1 := hF.hw0
      obtain rfl : w1 = 1 := hF.hw1
      refine ⟨2, 1, 7, t, once_upd h hx hcc hno (x' := ⟨14 * j + 7, [a0, r1, a2, 1, 2, r5, r6, a7], false⟩) (w0' := 2) (w1' := 1) (ss' := ss) (al' := al ++ [⟨(k + 1 : Nat), t, 7, 0, 1, 2⟩]) (el' := el) ((can_go hc hk hx hp hi).trans rfl) (.inr (.inr ⟨rfl, rfl⟩))
        (.inr ⟨j, 7, _, _, _, _, _, _, _, _, rfl, fun _ => by decide, .inl ⟨hjc, by decide, ⟨rfl, rfl⟩⟩⟩) ?_ (fun s hs => ?_) (fun _ => hlt2) (fun s hs => .inl hs) ⟨.inr (.inr (.inr (.inr (.inl rfl)))), rfl, rfl, fun _ => by decide, by rw [fetN_snoc]; exact hF.fet, fun h => absurd h (by decide), fun _ => ⟨(k + 1 : Nat), by rw [stW_snoc]; rfl, by omega, Int.le_refl _⟩, (fun e he => by obtain ⟨⟨s, hs, _⟩, _⟩ := hF.ev e he; rw [hF.st0 (by decide)] at hs; cases hs), hF.mine⟩ ?_⟩
      · rw [onceS_at (by decide), onceQ, if_pos ⟨rfl, by decide⟩]; rfl
      · rw [onceQ, onceQ, if_neg (fun h => hs h.1), if_neg (fun h => hs h.1)]
      · rw [onceR_at hjc (by decide), onceR_at hjc (by decide)]
        exact once_lt2 (by show 41 + 4 * ss.length + 1 ≤ 42 + 4 * ss.length; omega)
    · have hi := repP_get onceB (j := j) (n := c) (o := 7) (by decide) hjc
      obtain ⟨rfl, rfl⟩ : r3 = 1 ∧ w0 = 2 := hok
      have e1 := (can_go hc hk hx hp hi).trans (show _ = MZ.mk ps (ts.set t ⟨14 * j + 8, [a0, r1, a2, 1, r4, r5, r6, a7], false⟩) [2, w1] (wakeL 0 16 0 ss).2 al el (k + 1) 2 from rfl)
      rw [wakeL_all 0 16 ss 0 (fun s hs => (h.sl s hs).1) (by omega)] at e1
      rw [onceS_at (by decide)] at hst
      obtain ⟨rfl, rfl⟩ : t = t0 ∧ q = 7 := onceQ_eq (v := 7) hst.symm (by decide)
      obtain rfl : w1 = 1 := hF.hw1
      refine ⟨2, 1, 8, t, once_upd h hx hcc hno (x' := ⟨14 * j + 8, [a0, r1, a2, 1, r4, r5, r6, a7], false⟩) (w0' := 2) (w1' := 1) (ss' := []) (al' := al) (el' := el) e1 (.inl rfl)
        (.inr ⟨j, 8, _, _, _, _, _, _, _, _, rfl, fun _ => by decide, .inl ⟨hjc, by decide, ⟨rfl, rfl⟩⟩⟩) ?_ (fun s hs => ?_) (fun _ => hlt2) (fun s hs => by cases hs) (OnceF.k ⟨.inr (.inr (.inr (.inr (.inr (.inl rfl))))), rfl, rfl, fun h => absurd rfl h, hF.fet, fun h => absurd h (by decide), fun _ => hF.st1 (by decide), hF.ev, hF.mine⟩) ?_⟩
      · rw [onceS_at (by decide), onceQ, if_pos ⟨rfl, by decide⟩]; rfl
      · rw [onceQ, onceQ, if_neg (fun h => hs h.1), if_neg (fun h => hs h.1)]
      · rw [onceR_at hjc (by decide), onceR_at hjc (by decide)]
        exact once_lt2 (by show 2 + 4 * ss.length + 1 ≤ 41 + 0; omega)
    · have hi := repP_get onceB (j := j) (n := c) (o := 8) (by decide) hjc
      obtain ⟨rfl, rfl⟩ : r3 = 1 ∧ w0 = 2 := hok
      rw [onceS_at (by decide)] at hst
      obtain ⟨rfl, rfl⟩ : t = t0 ∧ q = 8 := onceQ_eq (v := 8) hst.symm (by decide)
      obtain rfl : w1 = 1 := hF.hw1
      refine ⟨2, 1, 13, t, once_upd h hx hcc hno (x' := ⟨14 * j + 13, [a0, r1, a2, 1, r4, r5, r6, a7], false⟩) (w0' := 2) (w1' := 1) (ss' := ss) (al' := al) (el' := el) ((can_go hc hk hx hp hi).trans set2) (.inl rfl)
        (.inr ⟨j, 13, _, _, _, _, _, _, _, _, rfl, fun _ => by decide, .inl ⟨hjc, by decide, ⟨.inr rfl, rfl⟩⟩⟩) ?_ (fun s hs => ?_) (fun _ => hlt2) (fun s hs => .inl hs) (OnceF.k ⟨.inr (.inr (.inr (.inr (.inr (.inr (.inl rfl)))))), rfl, rfl, fun h => absurd (hF.hss h).2 (by decide), hF.fet, fun h => absurd h (by decide), fun _ => hF.st1 (by decide), hF.ev, hF.mine⟩) ?_⟩
      · rw [onceS_at (by decide), onceQ, if_pos ⟨rfl, by decide⟩]; rfl
      · rw [onceQ, onceQ, if_neg (fun h => hs h.1), if_neg (fun h => hs h.1)]
      · rw [onceR_at hjc (by decide), onceR_at hjc (by decide)]
        exact once_lt2 (by show 1 + 4 * ss.length + 1 ≤ 2 + 4 * ss.length; omega)
    · have hi := repP_get onceB (j := j) (n := c) (o := 9) (by decide) hjc
      obtain ⟨rfl, rfl, h0⟩ : r4 = 2 ∧ r3 = 0 ∧ w0 ≠ 0 := hok
      rcases hw12 h0 with rfl | rfl
      · refine ⟨1, w1, q, t0, once_same h hx hcc hno (x' := ⟨14 * j + 10, [a0, 1, a2, 0, 2, r5, r6, a7], false⟩) (al' := al ++ [⟨(k + 1 : Nat), t, 6, 0, 1, 1⟩]) ((can_go hc hk hx hp hi).trans set2) (.inr ⟨_, show (6 : Int) ≠ 7 by decide, show (6 : Int) ≠ 8 by decide, rfl⟩) (.inr ⟨j, 10, _, _, _, _, _, _, _, _, rfl, hj, .inl ⟨hjc, by decide, ⟨rfl, rfl, .inl rfl, by decide⟩⟩⟩) ?_ ?_⟩
        · rw [onceS_at (by decide), onceS_at (by decide)]; rfl
        · rw [onceR_at hjc (by decide), onceR_at hjc (by decide)]
          exact once_lt (Nat.le_of_ble_eq_true rfl)
      · refine ⟨2, w1, q, t0, once_same h hx hcc hno (x' := ⟨14 * j + 10, [a0, 2, a2, 0, 2, r5, r6, a7], false⟩) (al' := al ++ [⟨(k + 1 : Nat), t, 6, 0, 2, 2⟩]) ((can_go hc hk hx hp hi).trans set2) (.inr ⟨_, show (6 : Int) ≠ 7 by decide, show (6 : Int) ≠ 8 by decide, rfl⟩) (.inr ⟨j, 10, _, _, _, _, _, _, _, _, rfl, hj, .inl ⟨hjc, by decide, ⟨rfl, rfl, .inr ⟨rfl, rfl⟩, by decide⟩⟩⟩) ?_ ?_⟩
        · rw [onceS_at (by decide), onceS_at (by decide)]; rfl
        · rw [onceR_at hjc (by decide), onceR_at hjc (by decide)]
          exact once_lt (Nat.le_of_ble_eq_true rfl)
    · have hi := repP_get onceB (j := j) (n := c) (o := 10) (by decide) hjc
      obtain ⟨rfl, rfl, h1, h0⟩ : r4 = 2 ∧ r3 = 0 ∧ (r1 = 1 ∨ r1 = 2 ∧ w0 = 2) ∧ w0 ≠ 0 := hok
      rcases h1 with rfl | ⟨rfl, rfl⟩
      · rcases hw12 h0 with rfl | rfl
        · refine ⟨1, w1, q, t0, once_same h hx hcc hno (x' := ⟨14 * j + 11, [a0, 1, a2, 0, 2, r5, r6, a7], false⟩) (al' := al) ((can_go hc hk hx hp hi).trans set2) (.inl rfl) (.inr ⟨j, 11, _, _, _, _, _, _, _, _, rfl, hj, .inl ⟨hjc, by decide, ⟨rfl, rfl, rfl, by decide⟩⟩⟩) ?_ ?_⟩
          · rw [onceS_at (by decide), onceS_at (by decide)]; rfl
          · rw [onceR_at hjc (by decide), onceR_at hjc (by decide)]
            exact once_lt (Nat.le_of_ble_eq_true rfl)
        · refine ⟨2, w1, q, t0, once_same h hx hcc hno (x' := ⟨14 * j + 11, [a0, 1, a2, 0, 2, r5, r6, a7], false⟩) (al' := al) ((can_go hc hk hx hp hi).trans set2) (.inl rfl) (.inr ⟨j, 11, _, _, _, _, _, _, _, _, rfl, hj, .inl ⟨hjc, by decide, ⟨rfl, rfl, rfl, by decide⟩⟩⟩) ?_ ?_⟩
          · rw [onceS_at (by decide), onceS_at (by decide)]; rfl
          · rw [onceR_at hjc (by decide), onceR_at hjc (by decide)]
            exact once_lt (Nat.le_of_ble_eq_true rfl)
      · refine ⟨2, w1, q, t0, once_same h hx hcc hno (x' := ⟨14 * j + 13, [a0, 2, a2, 0, 2, r5, r6, a7], false⟩) (al' := al) ((can_go hc hk hx hp hi).trans set2) (.inl rfl) (.inr ⟨j, 13, _, _, _, _, _, _, _, _, rfl, hj, .inl ⟨hjc, by decide, ⟨.inl rfl, rfl⟩⟩⟩) ?_ ?_⟩
        · rw [onceS_at (by decide), onceS_at (by decide)]; rfl
        · rw [onceR_at hjc (by decide), onceR_at hjc (by decide)]
          exact once_lt (Nat.le_of_ble_eq_true rfl)
    · have hi := repP_get onceB (j := j) (n := c) (o := 11) (by decide) hjc
      obtain ⟨rfl, rfl, rfl, h0⟩ : r4 = 2 ∧ r3 = 0 ∧ r1 = 1 ∧ w0 ≠ 0 := hok
      rcases hw12 h0 with rfl | rfl
      · rw [onceS_at (by decide)] at hst
        have hq47 : 4 ≤ q ∧ q ≤ 7 := by
          have := hF.hw0
          have h2 := hF.hq
          split at this
          · cases this
          · split at this
            · omega
            · cases this
        refine ⟨1, w1, q, t0, once_upd h hx hcc hno (x' := ⟨14 * j + 12, [a0, 1, a2, 0, 2, r5, r6, a7], false⟩) (w0' := 1) (w1' := w1) (ss' := ss ++ [⟨t, 0⟩]) (al' := al) (el' := el) ((can_go hc hk hx hp hi).trans rfl) (.inl rfl)
          (.inr ⟨j, 12, _, _, _, _, _, _, _, _, rfl, hj, .inl ⟨hjc, by decide, ⟨rfl, rfl, rfl, by decide⟩⟩⟩) ?_ (fun _ _ => rfl) h.t0 (fun s hs => ?_) (OnceF.k ⟨hF.hq, hF.hw0, hF.hw1, fun _ => hq47, hF.fet, hF.st0, hF.st1, hF.ev, hF.mine⟩) ?_⟩
        · rw [onceS_at (by decide), ← hst]; rfl
        · rcases List.mem_append.1 hs with hs | hs
          · exact .inl hs
          · rw [List.mem_singleton] at hs
            exact .inr ⟨hs, by show (14 * j + 12) % 14 = 12; omega, rfl⟩
        · rw [onceR_at hjc (by decide), onceR_at hjc (by decide), List.length_append]
          exact once_lt2 (by show 8 + 4 * ss.length + 1 ≤ 5 + 4 * (ss.length + 1); omega)
      · refine ⟨2, w1, q, t0, once_same h hx hcc hno (x' := ⟨14 * j + 12, [a0, 1, a2, 0, 2, r5, r6, a7], false⟩) (al' := al) ((can_go hc hk hx hp hi).trans rfl) (.inl rfl) (.inr ⟨j, 12, _, _, _, _, _, _, _, _, rfl, hj, .inl ⟨hjc, by decide, ⟨rfl, rfl, rfl, by decide⟩⟩⟩) ?_ ?_⟩
        · rw [onceS_at (by decide), onceS_at (by decide)]; rfl
        · rw [onceR_at hjc (by decide), onceR_at hjc (by decide)]
          exact once_lt (Nat.le_of_ble_eq_true rfl)
    · have hi := repP_get onceB (j := j) (n := c) (o := 12) (by decide) hjc
      obtain ⟨rfl, rfl, rfl, h0⟩ : r4 = 2 ∧ r3 = 0 ∧ r1 = 1 ∧ w0 ≠ 0 := hok
      rcases hw12 h0 with rfl | rfl
      · refine ⟨1, w1, q, t0, once_same h hx hcc hno (x' := ⟨14 * j + 9, [a0, 1, a2, 0, 2, r5, r6, a7], false⟩) (al' := al) ((can_go hc hk hx hp hi).trans set2) (.inl rfl) (.inr ⟨j, 9, _, _, _, _, _, _, _, _, rfl, hj, .inl ⟨hjc, by decide, ⟨rfl, rfl, by decide⟩⟩⟩) ?_ ?_⟩
        · rw [onceS_at (by decide), onceS_at (by decide)]; rfl
        · rw [onceR_at hjc (by decide), onceR_at hjc (by decide)]
          exact once_lt (Nat.le_of_ble_eq_true rfl)
      · refine ⟨2, w1, q, t0, once_same h hx hcc hno (x' := ⟨14 * j + 9, [a0, 1, a2, 0, 2, r5, r6, a7], false⟩) (al' := al) ((can_go hc hk hx hp hi).trans set2) (.inl rfl) (.inr ⟨j, 9, _, _, _, _, _, _, _, _, rfl, hj, .inl ⟨hjc, by decide, ⟨rfl, rfl, by decide⟩⟩⟩) ?_ ?_⟩
        · rw [onceS_at (by decide), onceS_at (by decide)]; rfl
        · rw [onceR_at hjc (by decide), onceR_at hjc (by decide)]
          exact once_lt (Nat.le_of_ble_eq_true rfl)
    · have hi := repP_get onceB (j := j) (n := c) (o := 13) (by decide) hjc
      obtain ⟨h3, rfl⟩ : (r3 = 0 ∨ r3 = 1) ∧ w0 = 2 := hok
      have hq7 : 7 ≤ q := by
        have := hF.hw0
        split at this
        · cases this
        · split at this
          · cases this
          · omega
      obtain ⟨sw, hs1, hs2, hs3⟩ := hF.st1 hq7
      have hT : ∀ r3 : Int, OnceT 2 c ⟨14 * j + 14, [a0, r1, a2, r3, r4, r5, r6, a7], false⟩ := fun r3 => .inr ⟨j + 1, 0, _, _, _, _, _, _, _, _, rfl, fun _ => by decide, by
        by_cases h' : j + 1 < c
        · exact .inl ⟨h', by decide, trivial⟩
        · exact .inr ⟨by omega, rfl⟩⟩
      have hev : ∀ v : Int, (v = 0 ∨ v = 1) → ∀ e ∈ el ++ [⟨(k + 1 : Nat), 3, t, v⟩], (∃ s : Int, stW al = some s ∧ s < e.w) ∧ (e.v = 0 ∨ e.v = 1) := fun v hv e he => by
        rcases List.mem_append.1 he with he | he
        · exact hF.ev e he
        · rw [List.mem_singleton] at he
          subst he
          exact ⟨⟨sw, hs1, by show sw < ((k + 1 : Nat) : Int); omega⟩, hv⟩
      rw [onceS_at (by decide)] at hst
      rcases h3 with rfl | rfl
      · refine ⟨2, w1, q, t0, once_upd h hx hcc hno (x' := ⟨14 * j + 14, [a0, r1, a2, 0, r4, r5, r6, a7], false⟩) (w0' := 2) (w1' := w1) (ss' := ss) (al' := al) (el' := el ++ [⟨(k + 1 : Nat), 3, t, 0⟩]) ((can_go hc hk hx hp hi).trans rfl) (.inl rfl)
          (hT 0) ?_ (fun _ _ => rfl) h.t0 (fun s hs => .inl hs) (OnceF.k ⟨hF.hq, hF.hw0, hF.hw1, hF.hss, hF.fet, hF.st0, hF.st1, hev 0 (.inl rfl), ?_⟩) ?_⟩
        · rw [onceS_next, ← hst]; rfl
        · rw [List.map_append, List.sum_append]
          exact (Int.add_zero _).trans hF.mine
        · rw [onceR_next hjc, onceR_at hjc (by decide)]
          show 48 * (c - j - 1) + 1 + 4 * ss.length + 1 ≤ 48 * (c - j - 1) + 1 + 1 + 4 * ss.length
          omega
      · obtain ⟨rfl, rfl⟩ : t = t0 ∧ q = 13 := onceQ_eq (v := 13) hst.symm (by decide)
        refine ⟨2, w1, 14, t, once_upd h hx hcc hno (x' := ⟨14 * j + 14, [a0, r1, a2, 1, r4, r5, r6, a7], false⟩) (w0' := 2) (w1' := w1) (ss' := ss) (al' := al) (el' := el ++ [⟨(k + 1 : Nat), 3, t, 1⟩]) ((can_go hc hk hx hp hi).trans rfl) (.inl rfl)
          (hT 1) ?_ (fun s hs => ?_) (fun _ => hlt2) (fun s hs => .inl hs) (OnceF.k ⟨by decide, rfl, hF.hw1, fun h => absurd (hF.hss h).2 (by decide), hF.fet, fun h => absurd h (by decide), fun _ => hF.st1 (by decide), hev 1 (.inr rfl), ?_⟩) ?_⟩
        · rw [onceS_next, onceQ, if_neg (fun h => h.2 rfl)]
        · rw [onceQ, onceQ, if_neg (fun h => hs h.1), if_neg (fun h => hs h.1)]
        · rw [List.map_append, List.sum_append]
          have := hF.mine
          rw [if_neg (by decide)] at this
          rw [this]; rfl
        · rw [onceR_next hjc, onceR_at hjc (by decide)]
          show 48 * (c - j - 1) + 1 + 4 * ss.length + 1 ≤ 48 * (c - j - 1) + 1 + 1 + 4 * ss.length
          omega
  · have hi := repP_halt onceB j
    refine ⟨w0, w1, q, t0, once_same h hx hcc hno (x' := ⟨14 * j + 1, [a0, r1, a2, r3, r4, r5, r6, a7], true⟩) (al' := al) ((can_go hc hk hx hp hi).trans set2) (.inl rfl) (.inl ⟨rfl, hj⟩) ?_ ?_⟩
    · rw [onceS_at (by decide)]; rfl
    · rw [onceR, onceR]
      dsimp only
      rw [if_pos rfl, if_neg (by decide), if_neg (by omega)]
      exact Nat.le_refl 1

end Go.Mac
