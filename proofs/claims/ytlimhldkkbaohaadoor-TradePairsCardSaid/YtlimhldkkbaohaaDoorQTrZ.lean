/- Threads that trade: what holds of the machine, whoever goes on when. -/
import Derived.Test.YtlimhldkkbaohaaDoorQTrV
open Go Go.Proofs Go.Mac
set_option maxRecDepth 100000
namespace Go.Mac

/-- A trade's body: of a thread's cell, and of a number. -/
def trdB (q : Nat × Nat) : List InsZ :=
  [⟨1, 4, q.2, 0, 0⟩, ⟨1, 5, (q.1 : Int) + (q.2 : Int) * 65536, 0, 0⟩, ⟨6, 1, 0, 0, 0⟩, ⟨11, 1, 0, 12, 0⟩, ⟨1, 2, 0, 0, 0⟩, ⟨9, 3, 0, 1, 2⟩, ⟨11, 3, 0, 2, 0⟩, ⟨5, 6, 1, 0, 16⟩, ⟨7, 0, 4, 6, 0⟩, ⟨15, 0, 1, 6, 0⟩, ⟨5, 2, 1, 16, 16⟩, ⟨10, 21, 0, 0, 0⟩,
   ⟨9, 3, 0, 1, 5⟩, ⟨11, 3, 0, 2, 0⟩, ⟨6, 2, q.1, 0, 0⟩, ⟨11, 2, 0, 17, 0⟩, ⟨10, 19, 0, 0, 0⟩, ⟨14, q.1, 2, 0, 0⟩, ⟨10, 14, 0, 0, 0⟩, ⟨1, 3, 0, 0, 0⟩, ⟨7, q.1, 3, -1, 0⟩, ⟨3, 2, 2, -1, 0⟩, ⟨16, 3, 2, 0, 0⟩]

/-- A word that is an offer. -/
def wd (n : Nat) (r : Int) : Prop := ∃ p N : Nat, 1 ≤ p ∧ p ≤ n ∧ 1 ≤ N ∧ N ≤ 100 ∧ r = (p : Int) + (N : Int) * 65536

def trOk (n : Nat) (q : Nat × Nat) (o : Nat) (r1 r2 r3 r4 r5 r6 : Int) : Prop :=
  o < 23 ∧ (1 ≤ o → r4 = q.2) ∧ (2 ≤ o → r5 = (q.1 : Int) + (q.2 : Int) * 65536) ∧ (o = 3 → r1 = 0 ∨ wd n r1) ∧ (4 ≤ o → o ≤ 10 → wd n r1) ∧ (o = 5 → r2 = 0) ∧ (o = 6 ∨ o = 13 → r3 = 0 ∨ r3 = 1) ∧ (o = 8 ∨ o = 9 → r6 = r1 % 65536) ∧ (o = 12 → r1 = 0) ∧ (o = 16 → r2 ≠ 0) ∧ (o = 17 → r2 = 0) ∧ (o = 20 → r3 = 0)

def TrG (n : Nat) (l : List (Nat × Nat)) (g : GZ) : Prop :=
  ∃ r1 r2 r3 r4 r5 r6 : Int, g.y.rg = [0, r1, r2, r3, r4, r5, r6, 0] ∧ (g.y.dn = true ∧ g.j = l.length ∨ g.y.dn = false ∧ ((∃ q, l[g.j]? = some q ∧ trOk n q g.y.pc r1 r2 r3 r4 r5 r6) ∨ g.j = l.length ∧ g.y.pc = 0))

def offN (o : Nat) (r3 : Int) : Bool := (o == 13 && r3 == 1) || (decide (14 ≤ o) && decide (o ≤ 18))

def trView (o : Nat) (r1 r3 r5 r6 : Int) : VZt :=
  ⟨offN o r3, o == 19 || o == 20, if (o = 6 ∧ r3 = 1) ∨ o = 7 ∨ o = 8 then r1 % 65536 else 0, if o = 9 then r6 else 0, decide (9 ≤ o ∧ o ≤ 11) || o == 21 || o == 22, if offN o r3 = true then r5 else 0⟩

def viewG (l : List (Nat × Nat)) (g : GZ) : VZt :=
  match l[g.j]? with
  | none => v0t
  | some _ => trView g.y.pc (rgZ g.y.rg 1) (rgZ g.y.rg 3) (rgZ g.y.rg 5) (rgZ g.y.rg 6)

/-- What a thread saw in its cell is there. -/
def sawG (x : Int) (l : List (Nat × Nat)) (g : GZ) : Prop := ∀ q, l[g.j]? = some q → (g.y.pc = 15 ∧ rgZ g.y.rg 2 ≠ 0 ∨ g.y.pc = 16) → x ≠ 0

def trN (c0 x : Int) (c : Option (Nat × Nat)) (o : Nat) (r1 r2 r3 : Int) : Nat :=
  match c with
  | none => 0
  | some _ => match o with
    | 0 => 70
    | 1 => 69
    | 2 => 68
    | 3 => if r1 = c0 then 67 else 72
    | 4 => if r1 = c0 then 66 else 71
    | 5 => if r1 = c0 then 65 else 70
    | 6 => if r3 = 0 then 69 else 24
    | 7 => 23
    | 8 => 22
    | 9 => 13
    | 10 => 4
    | 11 => 3
    | 12 => if c0 = 0 then 66 else 70
    | 13 => if r3 = 0 then 69 else 11
    | 14 => 10
    | 15 => if r2 = 0 then (if x = 0 then 5 else 13) else 6
    | 16 => 5
    | 17 => if x = 0 then 4 else 12
    | 18 => 11
    | 19 => 4
    | 20 => 3
    | 21 => 2
    | _ => 1

def trLp (c0 x : Int) (l : List (Nat × Nat)) (g : GZ) : Nat := if g.y.dn = true then 0 else 70 * (l.length - (g.j + 1)) + trN c0 x l[g.j]? g.y.pc (rgZ g.y.rg 1) (rgZ g.y.rg 2) (rgZ g.y.rg 3) + 1

theorem trN_mono (c0 c1 x y : Int) (c : Option (Nat × Nat)) (o : Nat) (r1 r2 r3 : Int) (d f : Nat) (hd : c1 = c0 ∨ d = 5) (hf : y = x ∨ f = 8) : trN c1 y c o r1 r2 r3 ≤ trN c0 x c o r1 r2 r3 + d + f := by
  unfold trN
  split
  · omega
  · split <;> (repeat' split) <;> omega

theorem trLp_mono {c0 c1 x y : Int} {d f : Nat} (hd : c1 = c0 ∨ d = 5) (hf : y = x ∨ f = 8) (l : List (Nat × Nat)) (g : GZ) : trLp c1 y l g ≤ trLp c0 x l g + d + f := by
  unfold trLp
  have := trN_mono c0 c1 x y l[g.j]? g.y.pc (rgZ g.y.rg 1) (rgZ g.y.rg 2) (rgZ g.y.rg 3) d f hd hf
  split <;> omega

/-- What changes the first cell. -/
def slotA (a : ActZ) : Prop :=
  a.c ≠ 0 ∨ a.x = a.y ∨ a.o = 9 ∧ (a.x = 0 ∧ wd 8 a.y ∧ a.y % 65536 = a.t + 1 ∨ a.y = 0 ∧ wd 8 a.x ∧ a.x % 65536 ≠ a.t + 1)

abbrev xF (ws : List Int) (t : Nat) : Int := rgZ ws ((t + 1 : Nat) : Int)

structure TrJ (B n : Nat) (ls : Nat → List (Nat × Nat)) (gs : Nat → GZ) (ws : List Int) (m : MZ) : Prop where
  sys : SysW n 17 (fun t => (ls t).map trdB) gs ws m
  hn : n ≤ 8
  hq : ∀ t, t < n → ∀ q ∈ ls t, q.1 = t + 1 ∧ 1 ≤ q.2 ∧ q.2 ≤ 100
  th : ∀ t, t < n → TrG n (ls t) (gs t)
  tv : TrV n (fun t => viewG (ls t) (gs t)) (rgZ ws 0) (xF ws)
  saw : ∀ t, t < n → sawG (xF ws t) (ls t) (gs t)
  sl : ∀ s ∈ m.ss, s.c = s.t + 1 ∧ (∃ q, (ls s.t.toNat)[(gs s.t.toNat).j]? = some q) ∧ (gs s.t.toNat).y.pc = 18 ∧ (gs s.t.toNat).y.dn = false ∧ (xF ws s.t.toNat ≠ 0 → ∃ u, u < n ∧ (viewG (ls u) (gs u)).wk = s.t + 1)
  par : ∃ h, rsum n (fun t => (gs t).j + trE (rgZ ws 0) (viewG (ls t) (gs t))) = 2 * h
  fo : ∀ a ∈ m.al, slotA a
  told : ToldW n gs m.el
  pot : m.k + (rsum n (fun t => trLp (rgZ ws 0) (xF ws t) (ls t) (gs t)) + 8 * (n - m.ss.length)) ≤ B

theorem rg_set {ws : List Int} {i : Nat} (hi : i < ws.length) (j : Nat) (v : Int) : rgZ (rgS ws (i : Int) v) (j : Int) = if j = i then v else rgZ ws (j : Int) := by
  rw [rgZ, rgS, rgZ, Int.toNat_natCast, Int.toNat_natCast, List.getD_eq_getElem?_getD, List.getD_eq_getElem?_getD]
  by_cases h : j = i
  · subst h
    rw [if_pos rfl, List.getElem?_set_self hi]
    rfl
  · rw [if_neg h, List.getElem?_set_ne (Ne.symm h)]

theorem trdB_say (q : Nat × Nat) : sayB (trdB q) = true := rfl

theorem TrV.congr {n : Nat} {vs vs' : Nat → VZt} {c0 : Int} {x : Nat → Int} (h : TrV n vs c0 x) (he : ∀ t, t < n → (vs' t).off = (vs t).off ∧ (vs' t).clr = (vs t).clr ∧ (vs' t).tk = (vs t).tk ∧ (vs' t).w = (vs t).w) : TrV n vs' c0 x := by
  refine ⟨fun h0 => ?_, fun t hx => ?_, fun s hs hk => ?_, fun s s' hs hs' hk e => ?_, fun t ht ho hx hw => ?_, fun t ht ho => ?_, fun t ht => ?_⟩
  · obtain ⟨t, ht, h1, h2⟩ := h.a h0
    obtain ⟨e1, e2, e3, e4⟩ := he t ht
    exact ⟨t, ht, by rw [e1]; exact h1, by rw [e4]; exact h2⟩
  · obtain ⟨h1, h2, h3⟩ := h.b t hx
    obtain ⟨e1, e2, e3, e4⟩ := he t h1
    rw [e1, e2, e4]
    exact ⟨h1, h2, h3⟩
  · rw [(he s hs).2.2.1] at hk ⊢
    obtain ⟨t, ht, h1, h2, h3, h4⟩ := h.c s hs hk
    obtain ⟨e1, e2, e3, e4⟩ := he t ht
    exact ⟨t, ht, h1, by rw [e1]; exact h2, h3, by rw [e4]; exact h4⟩
  · rw [(he s hs).2.2.1] at hk e
    rw [(he s' hs').2.2.1] at e
    exact h.d s s' hs hs' hk e
  · obtain ⟨e1, e2, e3, e4⟩ := he t ht
    rw [e1] at ho
    rw [e4] at hw
    obtain ⟨s, hs, h1⟩ := h.e t ht ho hx hw
    exact ⟨s, hs, by rw [(he s hs).2.2.1]; exact h1⟩
  · obtain ⟨e1, e2, e3, e4⟩ := he t ht
    rw [e1] at ho
    rw [e4]
    exact h.g t ht ho
  · obtain ⟨e1, e2, e3, e4⟩ := he t ht
    rw [e1, e2]
    exact h.k t ht

theorem rsum_if8 (n p : Nat) : rsum n (fun s => if s = p then 8 else 0) ≤ 8 := by
  have : ∀ m, rsum m (fun s => if s = p then 8 else 0) ≤ if p < m then 8 else 0 := fun m => by
    induction m with
    | zero => simp [rsum]
    | succ m ih =>
      rw [rsum_succ]
      by_cases h : m = p
      · subst h
        rw [if_pos rfl, if_pos (by omega)]
        rw [if_neg (by omega)] at ih
        omega
      · rw [if_neg h]
        by_cases h2 : p < m
        · rw [if_pos h2] at ih; rw [if_pos (by omega)]; omega
        · rw [if_neg h2] at ih; omega
  have := this n
  split at this <;> omega

section
variable {B n : Nat} {ls : Nat → List (Nat × Nat)} {gs : Nat → GZ} {ws : List Int} {m : MZ}

theorem tr_upd (h : TrJ B n ls gs ws m) {t : Nat} (hc : canZ m t = true) (hk : m.k < 20000) {g g' : GZ} (hgt : gs t = g) {ws' : List Int} {e : EffW} (hl : LS 17 ((ls t).map trdB) g ws g' ws' e) (hT : TrG n (ls t) g')
    (htv : TrV n (fun s => viewG (ls s) (updG gs t g' s)) (rgZ ws' 0) (xF ws')) (hsaw : sawG (xF ws' t) (ls t) g') (hxx : ∀ s, s < n → s ≠ t → xF ws s ≠ 0 → xF ws' s ≠ 0)
    (hsl : ∀ s ∈ effWS t m.ss e, s ∈ m.ss ∨ s = ⟨t, t + 1⟩ ∧ (∃ q, (ls t)[g'.j]? = some q) ∧ g'.y.pc = 18 ∧ g'.y.dn = false)
    (hwk : ∀ s ∈ effWS t m.ss e, xF ws' s.t.toNat ≠ 0 → ∃ u, u < n ∧ (viewG (ls u) (updG gs t g' u)).wk = s.t + 1)
    (hpar : ∃ h, rsum n (fun s => (updG gs t g' s).j + trE (rgZ ws' 0) (viewG (ls s) (updG gs t g' s))) = 2 * h)
    (hfo : ∀ a ∈ effWA (m.k + 1) t m.al e, slotA a) {d f p : Nat} (hd : rgZ ws' 0 = rgZ ws 0 ∧ d = 0 ∨ d = 5) (hf : (∀ s, s < n → s ≠ t → xF ws' s = xF ws s) ∧ f = 0 ∨ (∀ s, s < n → s ≠ t → s ≠ p → xF ws' s = xF ws s) ∧ f = 8)
    (hp : trLp (rgZ ws' 0) (xF ws' t) (ls t) g' + 8 * m.ss.length + 8 * d + f + 1 ≤ trLp (rgZ ws 0) (xF ws t) (ls t) g + 8 * (effWS t m.ss e).length) : TrJ B n ls (updG gs t g') ws' (stepZ m t).2 := by
  obtain ⟨ht, hdn, hno⟩ := h.sys.can hc
  obtain ⟨hs, e1, e2, e3, e4⟩ := h.sys.ls hc hk hgt hl
  have hn8 := h.hn
  have hl1 := ss_len h.sys.wf
  have hl2 := ss_len hs.wf
  rw [h.sys.ln] at hl1
  rw [hs.ln, e1] at hl2
  refine ⟨hs, h.hn, h.hq, fun s hsn => ?_, htv, fun s hsn => ?_, fun s hsm => ?_, hpar, by rw [e2]; exact hfo, ?_, ?_⟩
  · by_cases hst : s = t
    · subst hst; rw [updG_same]; exact hT
    · rw [updG_ne _ _ hst]; exact h.th s hsn
  · by_cases hst : s = t
    · subst hst; rw [updG_same]; exact hsaw
    · rw [updG_ne _ _ hst]
      exact fun q hq hh => hxx s hsn hst (h.saw s hsn q hq hh)
  · rw [e1] at hsm
    have hw := hwk s hsm
    rcases hsl s hsm with hs' | ⟨rfl, h1, h2, h3⟩
    · obtain ⟨h1, h2, h3, h4, _⟩ := h.sl s hs'
      have hst : s.t.toNat ≠ t := fun e => by
        have := h.sys.wf.ss.2 s hs'
        exact hno s hs' (by omega)
      rw [updG_ne _ _ hst]
      exact ⟨h1, h2, h3, h4, hw⟩
    · refine ⟨rfl, ?_, ?_, ?_, hw⟩ <;> (show _ ; simp only [Int.toNat_natCast, updG_same]) <;> assumption
  · subst hgt
    obtain ⟨i, y', hi, ho, hn, rfl⟩ := hl
    exact h.told.step h.sys (fun b hb => by obtain ⟨q, _, rfl⟩ := List.mem_map.1 hb; exact trdB_say q) hc hk hi ho hn
  · rw [e1, e4]
    have hpot := h.pot
    have hsum := rsum_upd (n := n) (t := t) (g := fun s => trLp (rgZ ws' 0) (xF ws' s) (ls s) (updG gs t g' s)) (h := fun s => trLp (rgZ ws 0) (xF ws s) (ls s) (gs s) + d + (if s = p ∧ f = 8 then 8 else 0)) ht fun s hsn hne => by
      rw [updG_ne _ _ hne]
      refine trLp_mono (by omega) ?_ _ _
      rcases hf with ⟨hf, rfl⟩ | ⟨hf, rfl⟩
      · exact .inl (hf s hsn hne)
      · by_cases hsp : s = p
        · right; rw [if_pos ⟨hsp, rfl⟩]
        · exact .inl (hf s hsn hne hsp)
    try dsimp only at hsum
    have hsplit : rsum n (fun s => trLp (rgZ ws 0) (xF ws s) (ls s) (gs s) + d + (if s = p ∧ f = 8 then 8 else 0)) ≤ rsum n (fun s => trLp (rgZ ws 0) (xF ws s) (ls s) (gs s)) + n * d + f := by
      have a1 : ∀ m, rsum m (fun s => trLp (rgZ ws 0) (xF ws s) (ls s) (gs s) + d + (if s = p ∧ f = 8 then 8 else 0)) = rsum m (fun s => trLp (rgZ ws 0) (xF ws s) (ls s) (gs s)) + m * d + rsum m (fun s => if s = p ∧ f = 8 then 8 else 0) := fun m => by
        induction m with
        | zero => simp [rsum]
        | succ m ih => rw [rsum_succ, rsum_succ, rsum_succ, ih, Nat.succ_mul]; omega
      rw [a1]
      have a2 : rsum n (fun s => if s = p ∧ f = 8 then 8 else 0) ≤ f := by
        by_cases hf8 : f = 8
        · subst hf8
          simp only [and_true]
          exact rsum_if8 n p
        · have := rsum_zero (n := n) (g := fun s => if s = p ∧ f = 8 then 8 else 0) fun s _ => by rw [if_neg fun h => hf8 h.2]
          omega
      omega
    rw [updG_same, hgt] at hsum
    have hnd : n * d ≤ 8 * d := Nat.mul_le_mul_right _ hn8
    have : (if t = p ∧ f = 8 then 8 else 0 : Nat) ≥ 0 := Nat.zero_le _
    omega

theorem tr_same (h : TrJ B n ls gs ws m) {t : Nat} {g g' : GZ} (hgt : gs t = g) (hv : (viewG (ls t) g').off = (viewG (ls t) g).off ∧ (viewG (ls t) g').clr = (viewG (ls t) g).clr ∧ (viewG (ls t) g').tk = (viewG (ls t) g).tk ∧ (viewG (ls t) g').w = (viewG (ls t) g).w) : TrV n (fun s => viewG (ls s) (updG gs t g' s)) (rgZ ws 0) (xF ws) := by
  refine h.tv.congr fun s _ => ?_
  by_cases hst : s = t
  · subst hst; rw [updG_same, hgt]; exact hv
  · rw [updG_ne _ _ hst]; exact ⟨rfl, rfl, rfl, rfl⟩

/-- A step that leaves cells, sleepers, and its thread's part. -/
theorem tr_quiet (h : TrJ B n ls gs ws m) {t : Nat} (hc : canZ m t = true) (hk : m.k < 20000) {g g' : GZ} (hgt : gs t = g) {e : EffW} (hl : LS 17 ((ls t).map trdB) g ws g' ws e) (hT : TrG n (ls t) g')
    (hv : (viewG (ls t) g').off = (viewG (ls t) g).off ∧ (viewG (ls t) g').clr = (viewG (ls t) g).clr ∧ (viewG (ls t) g').tk = (viewG (ls t) g).tk ∧ (viewG (ls t) g').w = (viewG (ls t) g).w) (hw : (viewG (ls t) g).wk = 0) (hpar : g'.j + trE (rgZ ws 0) (viewG (ls t) g') = g.j + trE (rgZ ws 0) (viewG (ls t) g))
    (hsaw : sawG (xF ws t) (ls t) g') (hss : ∀ ss, effWS t ss e = ss) (hal : effWA (m.k + 1) t m.al e = m.al ∨ ∃ a, effWA (m.k + 1) t m.al e = m.al ++ [a] ∧ slotA a)
    (hp : trLp (rgZ ws 0) (xF ws t) (ls t) g' + 1 ≤ trLp (rgZ ws 0) (xF ws t) (ls t) g) : TrJ B n ls (updG gs t g') ws (stepZ m t).2 := by
  obtain ⟨ht, hdn, hno⟩ := h.sys.can hc
  refine tr_upd h hc hk hgt hl hT (tr_same h hgt hv) hsaw (fun _ _ _ h => h) (fun s hs => .inl (by rwa [hss] at hs)) (fun s hs hx => ?_) ?_ (fun a ha => ?_) (d := 0) (f := 0) (p := 0) (.inl ⟨rfl, rfl⟩) (.inl ⟨fun _ _ _ => rfl, rfl⟩) (by rw [hss]; omega)
  · rw [hss] at hs
    obtain ⟨_, _, _, _, h5⟩ := h.sl s hs
    obtain ⟨u, hu, h6⟩ := h5 hx
    refine ⟨u, hu, ?_⟩
    have hut : u ≠ t := fun e => by
      subst e
      rw [hgt, hw] at h6
      have := h.sys.wf.ss.2 s hs
      omega
    rw [updG_ne _ _ hut]
    exact h6
  · obtain ⟨q, hq⟩ := h.par
    refine ⟨q, ?_⟩
    rw [← hq]
    have := rsum_set (n := n) (gs := gs) (g := g) (fun s g => g.j + trE (rgZ ws 0) (viewG (ls s) g)) (g' := g') ht hgt
    try dsimp only at this
    omega
  · rcases hal with hal | ⟨b, hal, hb⟩
    · rw [hal] at ha; exact h.fo a ha
    · rw [hal] at ha
      rcases List.mem_append.1 ha with ha | ha
      · exact h.fo a ha
      · rw [List.mem_singleton.1 ha]; exact hb

end
end Go.Mac
