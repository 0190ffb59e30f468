/- Threads that draw tickets, and are freed in that order: what holds of the machine, whoever goes on when. -/
import Derived.Test.YtnkmddcadkcdcaaDoorQRwS
open Go Go.Proofs Go.Mac
set_option maxRecDepth 100000
namespace Go.Mac

abbrev ticB : List InsZ := [⟨8, 1, 0, 1, 0⟩, ⟨6, 2, 1, 0, 0⟩, ⟨13, 2, 1, 5, 0⟩, ⟨14, 1, 2, 0, 0⟩, ⟨10, 1, 0, 0, 0⟩, ⟨16, 3, 1, 0, 0⟩, ⟨8, 1, 1, 1, 0⟩, ⟨15, 1, 16, -1, 0⟩, ⟨16, 3, 1, 0, 0⟩]
def ticU (_ : Unit) : List InsZ := ticB
abbrev ticL (c : Nat) : List (List InsZ) := (List.replicate c ()).map ticU

/-- Which tickets a thread drew. -/
def pos (t : Nat) (D : List Nat) : List Nat := (List.range D.length).filter fun i => D[i]? == some t

theorem pos_snoc (t s : Nat) (D : List Nat) : pos t (D ++ [s]) = if s = t then pos t D ++ [D.length] else pos t D := by
  rw [pos, List.length_append, List.length_singleton, List.range_succ, List.filter_append]
  have e : (List.range D.length).filter (fun i => (D ++ [s])[i]? == some t) = pos t D := by
    refine List.filter_congr fun i hi => ?_
    rw [List.getElem?_append_left (List.mem_range.1 hi)]
  rw [e]
  have e2 : (D ++ [s])[D.length]? = some s := by simp
  by_cases h : s = t
  · rw [if_pos h, List.filter_cons_of_pos (by rw [e2, h]; simp)]
    rfl
  · rw [if_neg h, List.filter_cons_of_neg (by rw [e2]; simpa using h)]
    simp

theorem pos_mem {t : Nat} {D : List Nat} {i : Nat} : i ∈ pos t D ↔ D[i]? = some t := by
  rw [pos, List.mem_filter, List.mem_range]
  constructor
  · rintro ⟨_, h⟩; simpa using h
  · intro h
    exact ⟨(List.getElem?_eq_some_iff.1 h).1, by simp [h]⟩

theorem pos_pair (t : Nat) (D : List Nat) : (pos t D).Pairwise (· < ·) := List.Pairwise.filter _ List.pairwise_lt_range

def dupL (l : List Nat) : List Int := l.flatMap fun (i : Nat) => [Int.ofNat i, Int.ofNat i]

theorem dupL_snoc (l : List Nat) (i : Nat) : dupL (l ++ [i]) = dupL l ++ [(i : Int), (i : Int)] := by simp [dupL, List.flatMap_append]

/-- How often a thread drew. -/
def drawsG (g : GZ) : Nat := g.j + if g.y.dn = false ∧ 1 ≤ g.y.pc then 1 else 0

def ticOk (D : List Nat) (w t j o : Nat) (r1 r2 : Int) : Prop :=
  o < 9 ∧ (1 ≤ o → ∃ i : Nat, r1 = i ∧ (pos t D)[j]? = some i ∧ (o ≤ 6 → w ≤ i)) ∧ (2 ≤ o → o ≤ 4 → 0 ≤ r2 ∧ r2 ≤ w) ∧ (o = 3 ∨ o = 4 → r2 ≠ r1) ∧ (o = 5 ∨ o = 6 → r1 = w)

def TicG (c : Nat) (D : List Nat) (w t : Nat) (g : GZ) : Prop :=
  (pos t D).length = drawsG g ∧ ∃ r1 r2 : Int, g.y.rg = [0, r1, r2, 0, 0, 0, 0, 0] ∧ (g.y.dn = true ∧ g.j = c ∨ g.y.dn = false ∧ (g.j < c ∧ ticOk D w t g.j g.y.pc r1 r2 ∨ g.j = c ∧ g.y.pc = 0))

def tlpN (w : Nat) (o : Nat) (r1 r2 : Int) : Nat :=
  match o with
  | 0 => 103
  | 1 => 102
  | 2 => if r2 = r1 then 101 else if r2 = w then 99 else 105
  | 3 => if r2 = w then 98 else 104
  | 4 => 103
  | 5 => 100
  | 6 => 99
  | 7 => 50
  | _ => 1

def tlp (c w : Nat) (g : GZ) : Nat := if g.y.dn = true then 0 else if g.j < c then 103 * (c - (g.j + 1)) + tlpN w g.y.pc (rgZ g.y.rg 1) (rgZ g.y.rg 2) + 1 else 1

theorem tlp_mono {v w d : Nat} (h : w = v ∨ d = 6) (c : Nat) (g : GZ) : tlp c w g ≤ tlp c v g + d := by
  rcases h with rfl | rfl
  · omega
  · unfold tlp
    have : tlpN w g.y.pc (rgZ g.y.rg 1) (rgZ g.y.rg 2) ≤ tlpN v g.y.pc (rgZ g.y.rg 1) (rgZ g.y.rg 2) + 6 := by
      unfold tlpN
      split <;> (repeat' split) <;> omega
    split
    · omega
    · split <;> omega

/-- Who drew; who freed. -/
def drew (al : List ActZ) : List Int := (al.filter fun a => a.o == 8 && a.c == 0).map (·.t)
def freed (al : List ActZ) : List Int := (al.filter fun a => a.o == 8 && a.c == 1).map (·.t)

theorem drew_snoc (al : List ActZ) (a : ActZ) : drew (al ++ [a]) = if a.o = 8 ∧ a.c = 0 then drew al ++ [a.t] else drew al := by
  rw [drew, List.filter_append, List.map_append]
  by_cases h : a.o = 8 ∧ a.c = 0
  · rw [if_pos h, List.filter_cons_of_pos (by simp [h.1, h.2])]; rfl
  · rw [if_neg h, List.filter_cons_of_neg (by simpa using h)]; simp [drew]

theorem freed_snoc (al : List ActZ) (a : ActZ) : freed (al ++ [a]) = if a.o = 8 ∧ a.c = 1 then freed al ++ [a.t] else freed al := by
  rw [freed, List.filter_append, List.map_append]
  by_cases h : a.o = 8 ∧ a.c = 1
  · rw [if_pos h, List.filter_cons_of_pos (by simp [h.1, h.2])]; rfl
  · rw [if_neg h, List.filter_cons_of_neg (by simpa using h)]; simp [freed]

abbrev castL (D : List Nat) : List Int := D.map Int.ofNat

/-- What a thread was told. -/
def toldG (D : List Nat) (t : Nat) (g : GZ) : List Int := dupL ((pos t D).take g.j) ++ if g.y.dn = false ∧ 6 ≤ g.y.pc then [rgZ g.y.rg 1] else []

structure TicJ (B n c : Nat) (D : List Nat) (w : Nat) (gs : Nat → GZ) (m : MZ) : Prop where
  sys : SysW n 2 (fun _ => ticL c) gs [(D.length : Int), (w : Int)] m
  hn : n ≤ 8 ∧ c ≤ 5
  th : ∀ t, t < n → TicG c D w t (gs t)
  wl : w ≤ D.length
  inn : ∀ t ∈ D, t < n
  held : ∀ i t, w ≤ i → D[i]? = some t → (gs t).y.dn = false ∧ 1 ≤ (gs t).y.pc ∧ (gs t).y.pc ≤ 6 ∧ rgZ (gs t).y.rg 1 = i
  len : D.length = rsum n fun t => drawsG (gs t)
  sl : ∀ s ∈ m.ss, s.c = 1 ∧ (gs s.t.toNat).y.pc = 4 ∧ (gs s.t.toNat).y.dn = false ∧ (gs s.t.toNat).j < c ∧ (rgZ (gs s.t.toNat).y.rg 2 = w ∨ ∃ u, u < n ∧ (gs u).y.pc = 7 ∧ (gs u).y.dn = false)
  fo : drew m.al = castL D ∧ freed m.al = castL (D.take w)
  told : ∀ t, t < n → ansT t m.el = toldG D t (gs t)
  pot : m.k + (rsum n (fun t => tlp c w (gs t)) + 6 * (n - m.ss.length)) ≤ B

section
variable {B n c : Nat} {D : List Nat} {w : Nat} {gs : Nat → GZ} {m : MZ}

theorem TicG.other {D' : List Nat} {w' t s : Nat} {g : GZ} (hst : s ≠ t) (h : TicG c D w s g) (hD : (D' = D ∧ w' = w) ∨ (D' = D ++ [t] ∧ w' = w) ∨ (D' = D ∧ w' = w + 1 ∧ D[w]? = some t)) : TicG c D' w' s g := by
  have hp : pos s D' = pos s D := by
    rcases hD with ⟨rfl, _⟩ | ⟨rfl, _⟩ | ⟨rfl, _⟩
    · rfl
    · rw [pos_snoc, if_neg (Ne.symm hst)]
    · rfl
  obtain ⟨h1, r1, r2, h2, h3⟩ := h
  refine ⟨by rw [hp]; exact h1, r1, r2, h2, ?_⟩
  rcases h3 with h3 | ⟨h3, ⟨h4, k1, k2, k3, k4, k5⟩ | h4⟩
  · exact .inl h3
  · refine .inr ⟨h3, .inl ⟨h4, k1, fun ho => ?_, fun a b => ?_, k4, fun ho => ?_⟩⟩
    · obtain ⟨i, e1, e2, e3⟩ := k2 ho
      refine ⟨i, e1, by rw [hp]; exact e2, fun h6 => ?_⟩
      have e3 := e3 h6
      rcases hD with ⟨_, rfl⟩ | ⟨_, rfl⟩ | ⟨_, rfl, hw⟩
      · exact e3
      · exact e3
      · have : i ≠ w := fun e => by
          subst e
          have := pos_mem.1 (List.mem_of_getElem? e2)
          rw [hw] at this
          exact hst (Option.some.inj this).symm
        omega
    · have := k3 a b
      clear k2 k5
      omega
    · obtain ⟨i, e1, e2, e3⟩ := k2 (by omega)
      have k5 := k5 ho
      rcases hD with ⟨_, rfl⟩ | ⟨_, rfl⟩ | ⟨_, rfl, hw⟩
      · exact k5
      · exact k5
      · exfalso
        have : i = w := by omega
        subst this
        have := pos_mem.1 (List.mem_of_getElem? e2)
        rw [hw] at this
        exact hst (Option.some.inj this).symm
  · exact .inr ⟨h3, .inr h4⟩

theorem tic_upd (h : TicJ B n c D w gs m) {t : Nat} (hc : canZ m t = true) (hk : m.k < 20000) {g g' : GZ} (hgt : gs t = g) {D' : List Nat} {w' : Nat} {e : EffW} (hl : LS 2 (ticL c) g [(D.length : Int), (w : Int)] g' [(D'.length : Int), (w' : Int)] e) (hT : TicG c D' w' t g')
    (hD : (D' = D ∧ w' = w) ∨ (D' = D ++ [t] ∧ w' = w) ∨ (D' = D ∧ w' = w + 1 ∧ D[w]? = some t)) {d : Nat} (hd : w' = w ∧ d = 0 ∨ d = 6)
    (hheld : ∀ i, w' ≤ i → D'[i]? = some t → g'.y.dn = false ∧ 1 ≤ g'.y.pc ∧ g'.y.pc ≤ 6 ∧ rgZ g'.y.rg 1 = i)
    (hlen : D'.length + drawsG g = D.length + drawsG g')
    (hsl : ∀ s ∈ effWS t m.ss e, s ∈ m.ss ∨ s = ⟨t, 1⟩ ∧ g'.y.pc = 4 ∧ g'.y.dn = false ∧ g'.j < c ∧ rgZ g'.y.rg 2 = w')
    (hwk : effWS t m.ss e ≠ [] → (w' = w ∨ g'.y.pc = 7 ∧ g'.y.dn = false) ∧ (g.y.pc = 7 → g'.y.pc = 7 ∧ g'.y.dn = false))
    (hfo : drew (effWA (m.k + 1) t m.al e) = castL D' ∧ freed (effWA (m.k + 1) t m.al e) = castL (D'.take w'))
    (htold : ansT t (effWE (m.k + 1) t m.el e) = toldG D' t g')
    (hp : tlp c w' g' + 6 * m.ss.length + 8 * d + 1 ≤ tlp c w g + 6 * (effWS t m.ss e).length) : ∃ D' w' gs', TicJ B n c D' w' gs' (stepZ m t).2 := by
  obtain ⟨ht, hdn, hno⟩ := h.sys.can hc
  obtain ⟨hs, e1, e2, e3, e4⟩ := h.sys.ls hc hk hgt hl
  obtain ⟨hn8, hc5⟩ := h.hn
  have hl1 := ss_len h.sys.wf
  have hl2 := ss_len hs.wf
  rw [h.sys.ln] at hl1
  rw [hs.ln, e1] at hl2
  have hsum := rsum_set (n := n) (gs := gs) (g := g) (fun _ g => drawsG g) (g' := g') ht hgt
  try dsimp only at hsum
  have hlen0 := h.len
  have hwl := h.wl
  have hDw : ∀ u i : Nat, u ≠ t → w' ≤ i → D'[i]? = some u → w ≤ i ∧ D[i]? = some u := fun u i hu hi hg => by
    rcases hD with ⟨rfl, rfl⟩ | ⟨rfl, rfl⟩ | ⟨rfl, rfl, _⟩
    · exact ⟨hi, hg⟩
    · refine ⟨hi, ?_⟩
      rcases Nat.lt_or_ge i D.length with hlt | hge
      · rwa [List.getElem?_append_left hlt] at hg
      · rw [List.getElem?_append_right hge] at hg
        have := List.mem_of_getElem? hg
        rw [List.mem_singleton] at this
        exact absurd this hu
    · exact ⟨by omega, hg⟩
  refine ⟨D', w', updG gs t g', hs, h.hn, fun s hsn => ?_, ?_, fun u hu => ?_, fun i u hi hg => ?_, by omega, fun s hsm => ?_, ?_, fun s hsn => ?_, ?_⟩
  · by_cases hst : s = t
    · subst hst; rw [updG_same]; exact hT
    · rw [updG_ne _ _ hst]; exact (h.th s hsn).other hst hD
  · rcases hD with ⟨rfl, rfl⟩ | ⟨rfl, rfl⟩ | ⟨rfl, rfl, hw⟩
    · exact hwl
    · rw [List.length_append]; omega
    · have := (List.getElem?_eq_some_iff.1 hw).1; omega
  · rcases hD with ⟨rfl, _⟩ | ⟨rfl, _⟩ | ⟨rfl, _⟩
    · exact h.inn u hu
    · rcases List.mem_append.1 hu with hu | hu
      · exact h.inn u hu
      · rw [List.mem_singleton.1 hu]; exact ht
    · exact h.inn u hu
  · by_cases hst : u = t
    · subst hst; rw [updG_same]; exact hheld i hi hg
    · rw [updG_ne _ _ hst]
      obtain ⟨h1, h2⟩ := hDw u i hst hi hg
      exact h.held i u h1 h2
  · rw [e1] at hsm
    have hwk := hwk (fun e => by rw [e] at hsm; cases hsm)
    obtain ⟨hwk1, hwk2⟩ := hwk
    rcases hsl s hsm with hs' | ⟨rfl, h1, h2, h3, h4⟩
    · obtain ⟨h1, h2, h3, h4, h5⟩ := h.sl s hs'
      have hst : s.t.toNat ≠ t := fun e => by
        have := h.sys.wf.ss.2 s hs'
        exact hno s hs' (by omega)
      rw [updG_ne _ _ hst]
      refine ⟨h1, h2, h3, h4, ?_⟩
      rcases h5 with h5 | ⟨u, hu, h6, h7⟩
      · rcases hwk1 with hw' | ⟨h6, h7⟩
        · exact .inl (by rw [hw']; exact h5)
        · exact .inr ⟨t, ht, by rw [updG_same]; exact ⟨h6, h7⟩⟩
      · refine .inr ⟨u, hu, ?_⟩
        by_cases hut : u = t
        · subst hut; rw [updG_same]; exact hwk2 (by rw [← hgt]; exact h6)
        · rw [updG_ne _ _ hut]; exact ⟨h6, h7⟩
    · show 1 = 1 ∧ (updG gs t g' (t : Int).toNat).y.pc = 4 ∧ (updG gs t g' (t : Int).toNat).y.dn = false ∧ (updG gs t g' (t : Int).toNat).j < c ∧ (rgZ (updG gs t g' (t : Int).toNat).y.rg 2 = w' ∨ _)
      rw [Int.toNat_natCast, updG_same]
      exact ⟨rfl, h1, h2, h3, .inl h4⟩
  · rw [e2]; exact hfo
  · rw [e3]
    by_cases hst : s = t
    · subst hst; rw [updG_same]; exact htold
    · rw [updG_ne _ _ hst]
      have e5 : ansT s (effWE (m.k + 1) t m.el e) = ansT s m.el := by
        cases e with
        | say a x =>
          show ansT s (m.el ++ [_]) = _
          rw [ansT_snoc, if_neg]
          rintro ⟨_, h2⟩
          dsimp only at h2
          omega
        | _ => rfl
      rw [e5, h.told s hsn]
      have hp : pos s D' = pos s D := by
        rcases hD with ⟨rfl, _⟩ | ⟨rfl, _⟩ | ⟨rfl, _⟩
        · rfl
        · rw [pos_snoc, if_neg (Ne.symm hst)]
        · rfl
      rw [toldG, toldG, hp]
  · rw [e1, e4]
    have hpot := h.pot
    have hsum := rsum_upd (n := n) (t := t) (g := fun s => tlp c w' (updG gs t g' s)) (h := fun s => tlp c w (gs s) + d) ht fun s _ hne => by
      rw [updG_ne _ _ hne]
      exact tlp_mono (by omega) _ _
    try dsimp only at hsum
    rw [updG_same, rsum_plus, hgt] at hsum
    have hnd : n * d ≤ 8 * d := Nat.mul_le_mul_right _ hn8
    omega

/-- A step that changes nothing that others see. -/
theorem tic_quiet (h : TicJ B n c D w gs m) {t : Nat} (hc : canZ m t = true) (hk : m.k < 20000) {g g' : GZ} (hgt : gs t = g) {e : EffW} (hl : LS 2 (ticL c) g [(D.length : Int), (w : Int)] g' [(D.length : Int), (w : Int)] e) (hT : TicG c D w t g')
    (hss : ∀ ss, effWS t ss e = ss) (hal : effWA (m.k + 1) t m.al e = m.al ∨ ∃ o c x y, o ≠ 8 ∧ e = .act o c x y) (h7 : g.y.pc ≠ 7)
    (hheld : ∀ i, w ≤ i → D[i]? = some t → g'.y.dn = false ∧ 1 ≤ g'.y.pc ∧ g'.y.pc ≤ 6 ∧ rgZ g'.y.rg 1 = i) (hdr : drawsG g = drawsG g')
    (htold : ansT t (effWE (m.k + 1) t m.el e) = toldG D t g') (hp : tlp c w g' + 1 ≤ tlp c w g) : ∃ D' w' gs', TicJ B n c D' w' gs' (stepZ m t).2 := by
  refine tic_upd h hc hk hgt hl hT (.inl ⟨rfl, rfl⟩) (.inl ⟨rfl, rfl⟩) hheld (by omega) (fun s hs => .inl (by rwa [hss] at hs)) (fun _ => ⟨.inl rfl, fun h => absurd h h7⟩) ?_ htold (by rw [hss]; omega)
  rcases hal with hal | ⟨o, c0, x, y, ho, rfl⟩
  · rw [hal]; exact h.fo
  · show drew (m.al ++ [_]) = _ ∧ freed (m.al ++ [_]) = _
    rw [drew_snoc, freed_snoc, if_neg (fun h => ho h.1), if_neg (fun h => ho h.1)]
    exact h.fo

theorem tic_step (h : TicJ B n c D w gs m) {t : Nat} (hc : canZ m t = true) (hk : m.k < 20000) : ∃ D' w' gs', TicJ B n c D' w' gs' (stepZ m t).2 := by
  obtain ⟨ht, hd, hno⟩ := h.sys.can hc
  obtain ⟨g, hgt⟩ : ∃ g, gs t = g := ⟨_, rfl⟩
  obtain ⟨hpl, r1, r2, hrg, hcase⟩ := h.th t ht
  have htold := h.told t ht
  have hheld : ∀ i, w ≤ i → D[i]? = some t → g.y.dn = false ∧ 1 ≤ g.y.pc ∧ g.y.pc ≤ 6 ∧ rgZ g.y.rg 1 = i := fun i hi hg => by rw [← hgt]; exact h.held i t hi hg
  obtain ⟨hn8, hc5⟩ := h.hn
  have hwl := h.wl
  have hlen : D.length ≤ n * 6 := by
    rw [h.len]
    refine rsum_const _ _ _ fun s hs => ?_
    obtain ⟨_, q1, q2, _, q3 | ⟨q3, q4 | q4⟩⟩ := h.th s hs
    · rw [drawsG, if_neg (by rw [q3.1]; simp)]; omega
    · rw [drawsG]; split <;> omega
    · rw [drawsG]; split <;> omega
  rw [hgt] at hd hpl hrg hcase htold
  obtain ⟨j, o, rg, dn⟩ := g
  dsimp only at hd hrg hcase
  subst hd hrg
  rcases hcase with ⟨h1, _⟩ | ⟨_, ⟨hj, ho9, k1, k2, k3, k4⟩ | ⟨rfl, rfl⟩⟩
  · cases h1
  · have hb : (List.replicate c ())[j]? = some () := by rw [List.getElem?_replicate, if_pos hj]
    have lp (w o : Nat) (r1 r2 : Int) : tlp c w ⟨j, ⟨o, [0, r1, r2, 0, 0, 0, 0, 0], false⟩⟩ = 103 * (c - (j + 1)) + tlpN w o r1 r2 + 1 := by
      show (if (false : Bool) = true then 0 else if j < c then _ else 1) = _
      rw [if_neg (by decide), if_pos hj]
      rfl
    have told (D : List Nat) (o : Nat) (r1 r2 : Int) : toldG D t ⟨j, ⟨o, [0, r1, r2, 0, 0, 0, 0, 0], false⟩⟩ = dupL ((pos t D).take j) ++ if 6 ≤ o then [r1] else [] := by
      show dupL ((pos t D).take j) ++ (if (false : Bool) = false ∧ 6 ≤ o then [r1] else []) = _
      by_cases h6 : 6 ≤ o
      · rw [if_pos h6, if_pos ⟨rfl, h6⟩]
      · rw [if_neg h6, if_neg fun h => h6 h.2]
    have dr (o : Nat) (r1 r2 : Int) (ho : 1 ≤ o) : drawsG ⟨j, ⟨o, [0, r1, r2, 0, 0, 0, 0, 0], false⟩⟩ = j + 1 := by rw [drawsG, if_pos ⟨rfl, ho⟩]
    have dr0 (r1 r2 : Int) : drawsG ⟨j, ⟨0, [0, r1, r2, 0, 0, 0, 0, 0], false⟩⟩ = j := by rw [drawsG, if_neg (fun h => absurd h.2 (by show ¬ 1 ≤ 0; decide))]; rfl
    rw [told] at htold
    rcases (show o = 0 ∨ o = 1 ∨ o = 2 ∨ o = 3 ∨ o = 4 ∨ o = 5 ∨ o = 6 ∨ o = 7 ∨ o = 8 by omega) with rfl | rfl | rfl | rfl | rfl | rfl | rfl | rfl | rfl
    · rw [dr0] at hpl
      have hw1 : u64m ((D.length : Int) + u64m 1) = ((D ++ [t]).length : Int) := by
        rw [List.length_append, List.length_singleton]
        exact wrap_u64 ((D.length : Int) + 1) (by omega) (by omega)
      have hn1 : nextW ⟨8, 1, 0, 1, 0⟩ ⟨0, [0, r1, r2, 0, 0, 0, 0, 0], false⟩ [(D.length : Int), (w : Int)] = (⟨1, [0, (D.length : Int), r2, 0, 0, 0, 0, 0], false⟩, [((D ++ [t]).length : Int), (w : Int)], .act 8 0 (D.length : Int) ((D ++ [t]).length : Int)) := by
        rw [← hw1]; rfl
      have hpo : pos t (D ++ [t]) = pos t D ++ [D.length] := by rw [pos_snoc, if_pos rfl]
      refine tic_upd h hc hk hgt (D' := D ++ [t]) (w' := w) (LS.inn hb rfl (cellK_ok (by decide)) hn1 (by decide)) ⟨?_, _, _, rfl, .inr ⟨rfl, .inl ⟨hj, by show 1 < 9; decide, fun _ => ⟨D.length, rfl, ?_, fun _ => hwl⟩, fun h => absurd h (by show ¬ 2 ≤ 1; decide), fun h => absurd h (by show ¬ (1 = 3 ∨ 1 = 4); decide), fun h => absurd h (by show ¬ (1 = 5 ∨ 1 = 6); decide)⟩⟩⟩ (.inr (.inl ⟨rfl, rfl⟩)) (.inl ⟨rfl, rfl⟩) (fun i hi hg => ?_) ?_ (fun s hs => .inl hs) (fun _ => ⟨.inl rfl, fun h => by cases h⟩) ?_ ?_ ?_
      · rw [dr _ _ _ (by decide), hpo, List.length_append, hpl]; rfl
      · rw [hpo, List.getElem?_append_right (by rw [hpl]; exact Nat.le_refl _), hpl, Nat.sub_self]; rfl
      · rcases Nat.lt_or_ge i D.length with hlt | hge
        · rw [List.getElem?_append_left hlt] at hg
          have := (hheld i hi hg).2.1
          exact absurd this (by show ¬ 1 ≤ 0; decide)
        · have := (List.getElem?_eq_some_iff.1 hg).1
          rw [List.length_append, List.length_singleton] at this
          obtain rfl : i = D.length := by omega
          exact ⟨rfl, by show 1 ≤ 1; decide, by show 1 ≤ 6; decide, rfl⟩
      · rw [dr0, dr _ _ _ (by decide), List.length_append, List.length_singleton]; omega
      · obtain ⟨f1, f2⟩ := h.fo
        show drew (m.al ++ [_]) = _ ∧ freed (m.al ++ [_]) = _
        rw [drew_snoc, freed_snoc, if_pos ⟨rfl, rfl⟩, if_neg (fun h => absurd h.2 (by show ¬ (((0 : Nat) : Int) = 1); decide)), f1, f2]
        refine ⟨?_, ?_⟩
        · rw [castL, castL, List.map_append]; rfl
        · rw [List.take_append_of_le_length hwl]
      · rw [told, hpo, List.take_append_of_le_length (by omega)]
        exact htold
      · rw [lp, lp]
        show _ + 102 + 1 + 6 * m.ss.length + 8 * 0 + 1 ≤ _ + 103 + 1 + 6 * m.ss.length
        omega
    · obtain ⟨i, e1, e2, e3⟩ := k1 (by decide)
      subst e1
      refine tic_quiet h hc hk hgt (LS.inn (o' := 2) (rg' := [0, (i : Int), (w : Int), 0, 0, 0, 0, 0]) hb (i := ⟨6, 2, 1, 0, 0⟩) rfl (cellK_ok (by decide)) rfl (by decide)) ⟨?_, _, _, rfl, .inr ⟨rfl, .inl ⟨hj, by show 2 < 9; decide, fun _ => ⟨i, rfl, e2, fun _ => e3 (by decide)⟩, fun _ _ => by omega, fun h => absurd h (by show ¬ (2 = 3 ∨ 2 = 4); decide), fun h => absurd h (by show ¬ (2 = 5 ∨ 2 = 6); decide)⟩⟩⟩ (fun _ => rfl) (.inr ⟨6, _, _, _, by decide, rfl⟩) (by show 1 ≠ 7; decide) (fun i hi hg => ?_) ?_ ?_ ?_
      · rw [dr _ _ _ (by decide)] at hpl ⊢; exact hpl
      · obtain ⟨q1, q2, q3, q4⟩ := hheld i hi hg
        exact ⟨rfl, by show 1 ≤ 2; decide, by show 2 ≤ 6; decide, q4⟩
      · rw [dr _ _ _ (by decide), dr _ _ _ (by decide)]
      · rw [told]; exact htold
      · rw [lp, lp]
        simp only [tlpN]
        split
        · omega
        · rw [if_pos trivial]; omega
    · obtain ⟨i, e1, e2, e3⟩ := k1 (by decide)
      subst e1
      have e3 := e3 (by decide)
      have k2 := k2 (by decide) (by decide)
      by_cases hq : r2 = (i : Int)
      · refine tic_quiet h hc hk hgt (LS.inn (o' := 5) (rg' := [0, (i : Int), r2, 0, 0, 0, 0, 0]) hb (i := ⟨13, 2, 1, 5, 0⟩) rfl (cellK_ok (by decide)) (nx_equal hq) (by decide)) ⟨?_, _, _, rfl, .inr ⟨rfl, .inl ⟨hj, by show 5 < 9; decide, fun _ => ⟨i, rfl, e2, fun _ => e3⟩, fun _ h => absurd h (by show ¬ 5 ≤ 4; decide), fun h => absurd h (by show ¬ (5 = 3 ∨ 5 = 4); decide), fun _ => by omega⟩⟩⟩ (fun _ => rfl) (.inl rfl) (by show 2 ≠ 7; decide) (fun i hi hg => ?_) ?_ ?_ ?_
        · rw [dr _ _ _ (by decide)] at hpl ⊢; exact hpl
        · obtain ⟨q1, q2, q3, q4⟩ := hheld i hi hg
          exact ⟨rfl, by show 1 ≤ 5; decide, by show 5 ≤ 6; decide, q4⟩
        · rw [dr _ _ _ (by decide), dr _ _ _ (by decide)]
        · rw [told]; exact htold
        · rw [lp, lp]
          simp only [tlpN]
          rw [if_pos hq]
          omega
      · refine tic_quiet h hc hk hgt (LS.inn (o' := 3) (rg' := [0, (i : Int), r2, 0, 0, 0, 0, 0]) hb (i := ⟨13, 2, 1, 5, 0⟩) rfl (cellK_ok (by decide)) (nx_equal' hq) (by decide)) ⟨?_, _, _, rfl, .inr ⟨rfl, .inl ⟨hj, by show 3 < 9; decide, fun _ => ⟨i, rfl, e2, fun _ => e3⟩, fun _ _ => k2, fun _ => hq, fun h => absurd h (by show ¬ (3 = 5 ∨ 3 = 6); decide)⟩⟩⟩ (fun _ => rfl) (.inl rfl) (by show 2 ≠ 7; decide) (fun i hi hg => ?_) ?_ ?_ ?_
        · rw [dr _ _ _ (by decide)] at hpl ⊢; exact hpl
        · obtain ⟨q1, q2, q3, q4⟩ := hheld i hi hg
          exact ⟨rfl, by show 1 ≤ 3; decide, by show 3 ≤ 6; decide, q4⟩
        · rw [dr _ _ _ (by decide), dr _ _ _ (by decide)]
        · rw [told]; exact htold
        · rw [lp, lp]
          simp only [tlpN]
          rw [if_neg hq]
          split <;> omega
    · obtain ⟨i, e1, e2, e3⟩ := k1 (by decide)
      subst e1
      have e3 := e3 (by decide)
      have k2 := k2 (by decide) (by decide)
      have k3 := k3 (.inl rfl)
      have hT : TicG c D w t ⟨j, ⟨4, [0, (i : Int), r2, 0, 0, 0, 0, 0], false⟩⟩ := ⟨by rw [dr _ _ _ (by decide)] at hpl ⊢; exact hpl, _, _, rfl, .inr ⟨rfl, .inl ⟨hj, by show 4 < 9; decide, fun _ => ⟨i, rfl, e2, fun _ => e3⟩, fun _ _ => k2, fun _ => k3, fun h => absurd h (by show ¬ (4 = 5 ∨ 4 = 6); decide)⟩⟩⟩
      by_cases hq : (w : Int) = r2
      · refine tic_upd h hc hk hgt (D' := D) (w' := w) (LS.inn (o' := 4) (rg' := [0, (i : Int), r2, 0, 0, 0, 0, 0]) hb (i := ⟨14, 1, 2, 0, 0⟩) rfl (cellK_ok (by decide)) (nx_wait hq) (by decide)) hT (.inl ⟨rfl, rfl⟩) (.inl ⟨rfl, rfl⟩) (fun i hi hg => ?_) ?_ (fun s hs => ?_) (fun _ => ⟨.inl rfl, fun h => by cases h⟩) h.fo ?_ ?_
        · obtain ⟨q1, q2, q3, q4⟩ := hheld i hi hg
          exact ⟨rfl, by show 1 ≤ 4; decide, by show 4 ≤ 6; decide, q4⟩
        · rw [dr _ _ _ (by decide), dr _ _ _ (by decide)]
        · rcases List.mem_append.1 hs with hs | hs
          · exact .inl hs
          · exact .inr ⟨List.mem_singleton.1 hs, rfl, rfl, hj, hq.symm⟩
        · rw [told]; exact htold
        · rw [lp, lp]
          simp only [tlpN]
          rw [if_pos hq.symm]
          show _ ≤ _ + 6 * (m.ss ++ [_]).length
          rw [List.length_append, List.length_singleton]
          omega
      · refine tic_quiet h hc hk hgt (LS.inn (o' := 4) (rg' := [0, (i : Int), r2, 0, 0, 0, 0, 0]) hb (i := ⟨14, 1, 2, 0, 0⟩) rfl (cellK_ok (by decide)) (nx_wait' hq) (by decide)) hT (fun _ => rfl) (.inl rfl) (by show 3 ≠ 7; decide) (fun i hi hg => ?_) ?_ ?_ ?_
        · obtain ⟨q1, q2, q3, q4⟩ := hheld i hi hg
          exact ⟨rfl, by show 1 ≤ 4; decide, by show 4 ≤ 6; decide, q4⟩
        · rw [dr _ _ _ (by decide), dr _ _ _ (by decide)]
        · rw [told]; exact htold
        · rw [lp, lp]
          simp only [tlpN]
          rw [if_neg fun e => hq e.symm]
          omega
    · obtain ⟨i, e1, e2, e3⟩ := k1 (by decide)
      subst e1
      refine tic_quiet h hc hk hgt (LS.inn (o' := 1) (rg' := [0, (i : Int), r2, 0, 0, 0, 0, 0]) hb (i := ⟨10, 1, 0, 0, 0⟩) rfl (cellK_ok (by decide)) rfl (by decide)) ⟨?_, _, _, rfl, .inr ⟨rfl, .inl ⟨hj, by show 1 < 9; decide, fun _ => ⟨i, rfl, e2, fun _ => e3 (by decide)⟩, fun h => absurd h (by show ¬ 2 ≤ 1; decide), fun h => absurd h (by show ¬ (1 = 3 ∨ 1 = 4); decide), fun h => absurd h (by show ¬ (1 = 5 ∨ 1 = 6); decide)⟩⟩⟩ (fun _ => rfl) (.inl rfl) (by show 4 ≠ 7; decide) (fun i hi hg => ?_) ?_ ?_ ?_
      · rw [dr _ _ _ (by decide)] at hpl ⊢; exact hpl
      · obtain ⟨q1, q2, q3, q4⟩ := hheld i hi hg
        exact ⟨rfl, by show 1 ≤ 1; decide, by show 1 ≤ 6; decide, q4⟩
      · rw [dr _ _ _ (by decide), dr _ _ _ (by decide)]
      · rw [told]; exact htold
      · rw [lp, lp]
        simp only [tlpN]
        omega
    · obtain ⟨i, e1, e2, e3⟩ := k1 (by decide)
      subst e1
      have e3 := e3 (by decide)
      have k4 := k4 (.inl rfl)
      refine tic_quiet h hc hk hgt (LS.inn (o' := 6) (rg' := [0, (i : Int), r2, 0, 0, 0, 0, 0]) hb (i := ⟨16, 3, 1, 0, 0⟩) rfl (cellK_ok (by decide)) rfl (by decide)) ⟨?_, _, _, rfl, .inr ⟨rfl, .inl ⟨hj, by show 6 < 9; decide, fun _ => ⟨i, rfl, e2, fun _ => e3⟩, fun _ h => absurd h (by show ¬ 6 ≤ 4; decide), fun h => absurd h (by show ¬ (6 = 3 ∨ 6 = 4); decide), fun _ => k4⟩⟩⟩ (fun _ => rfl) (.inl rfl) (by show 5 ≠ 7; decide) (fun i hi hg => ?_) ?_ ?_ ?_
      · rw [dr _ _ _ (by decide)] at hpl ⊢; exact hpl
      · obtain ⟨q1, q2, q3, q4⟩ := hheld i hi hg
        exact ⟨rfl, by show 1 ≤ 6; decide, by show 6 ≤ 6; decide, q4⟩
      · rw [dr _ _ _ (by decide), dr _ _ _ (by decide)]
      · show ansT t (m.el ++ [⟨((m.k + 1 : Nat) : Int), 3, (t : Int), IntKind.i64.wrap (i : Int)⟩]) = _
        rw [told, ansT_snoc, if_pos ⟨rfl, rfl⟩, htold, if_neg (by decide), if_pos (by decide), List.append_nil]
        have : i < D.length := (List.getElem?_eq_some_iff.1 (pos_mem.1 (List.mem_of_getElem? e2))).1
        dsimp only
        rw [wrap_i64 (i : Int) (by omega) (by omega)]
      · rw [lp, lp]
        simp only [tlpN]
        omega
    · obtain ⟨i, e1, e2, e3⟩ := k1 (by decide)
      subst e1
      have e3 := e3 (by decide)
      have k4 := k4 (.inr rfl)
      obtain rfl : i = w := by omega
      have hDi := pos_mem.1 (List.mem_of_getElem? e2)
      have hw1 : u64m ((i : Int) + u64m 1) = ((i + 1 : Nat) : Int) := by
        have : i < D.length := (List.getElem?_eq_some_iff.1 hDi).1
        exact wrap_u64 ((i : Int) + 1) (by omega) (by omega)
      have hn1 : nextW ⟨8, 1, 1, 1, 0⟩ ⟨6, [0, (i : Int), r2, 0, 0, 0, 0, 0], false⟩ [(D.length : Int), (i : Int)] = (⟨7, [0, (i : Int), r2, 0, 0, 0, 0, 0], false⟩, [(D.length : Int), ((i + 1 : Nat) : Int)], .act 8 1 (i : Int) ((i + 1 : Nat) : Int)) := by
        rw [← hw1]; rfl
      refine tic_upd h hc hk hgt (D' := D) (w' := i + 1) (LS.inn hb rfl (cellK_ok (by decide)) hn1 (by decide)) ⟨?_, _, _, rfl, .inr ⟨rfl, .inl ⟨hj, by show 7 < 9; decide, fun _ => ⟨i, rfl, e2, fun h => absurd h (by show ¬ 7 ≤ 6; decide)⟩, fun _ h => absurd h (by show ¬ 7 ≤ 4; decide), fun h => absurd h (by show ¬ (7 = 3 ∨ 7 = 4); decide), fun h => absurd h (by show ¬ (7 = 5 ∨ 7 = 6); decide)⟩⟩⟩ (.inr (.inr ⟨rfl, rfl, hDi⟩)) (.inr rfl) (fun u hu hg => ?_) ?_ (fun s hs => .inl hs) (fun _ => ⟨.inr ⟨rfl, rfl⟩, fun h => by cases h⟩) ?_ ?_ ?_
      · rw [dr _ _ _ (by decide)] at hpl ⊢; exact hpl
      · have := (hheld u (by omega) hg).2.2.2
        have : (i : Int) = u := this
        omega
      · rw [dr _ _ _ (by decide), dr _ _ _ (by decide)]
      · obtain ⟨f1, f2⟩ := h.fo
        show drew (m.al ++ [_]) = _ ∧ freed (m.al ++ [_]) = _
        rw [drew_snoc, freed_snoc, if_neg (fun h => absurd h.2 (by show ¬ (((1 : Nat) : Int) = 0); decide)), if_pos ⟨rfl, rfl⟩, f1, f2]
        refine ⟨rfl, ?_⟩
        rw [List.take_add_one, hDi, castL, castL, List.map_append]
        rfl
      · rw [told]; exact htold
      · rw [lp, lp]
        show _ + 50 + 1 + 6 * m.ss.length + 8 * 6 + 1 ≤ _ + 99 + 1 + 6 * m.ss.length
        omega
    · obtain ⟨i, e1, e2, e3⟩ := k1 (by decide)
      subst e1
      have hl1 := ss_len h.sys.wf
      rw [h.sys.ln] at hl1
      have hss : effWS t m.ss (.wake 1 16) = [] := wake_all (fun s hs => (h.sl s hs).1) (by omega)
      refine tic_upd h hc hk hgt (D' := D) (w' := w) (e := .wake 1 16) (LS.inn (o' := 8) (rg' := [0, (i : Int), r2, 0, 0, 0, 0, 0]) hb (i := ⟨15, 1, 16, -1, 0⟩) rfl (cellK_ok (by decide)) rfl (by decide)) ⟨?_, _, _, rfl, .inr ⟨rfl, .inl ⟨hj, by show 8 < 9; decide, fun _ => ⟨i, rfl, e2, fun h => absurd h (by show ¬ 8 ≤ 6; decide)⟩, fun _ h => absurd h (by show ¬ 8 ≤ 4; decide), fun h => absurd h (by show ¬ (8 = 3 ∨ 8 = 4); decide), fun h => absurd h (by show ¬ (8 = 5 ∨ 8 = 6); decide)⟩⟩⟩ (.inl ⟨rfl, rfl⟩) (.inl ⟨rfl, rfl⟩) (fun u hu hg => ?_) ?_ (fun s hs => by rw [hss] at hs; cases hs) (fun hne => absurd hss hne) h.fo ?_ ?_
      · rw [dr _ _ _ (by decide)] at hpl ⊢; exact hpl
      · have := (hheld u hu hg).2.2.1
        exact absurd this (by show ¬ 7 ≤ 6; decide)
      · rw [dr _ _ _ (by decide), dr _ _ _ (by decide)]
      · rw [told]; exact htold
      · rw [lp, lp, hss]
        show _ + 1 + 1 + 6 * m.ss.length + 8 * 0 + 1 ≤ _ + 50 + 1 + 6 * 0
        omega
    · obtain ⟨i, e1, e2, e3⟩ := k1 (by decide)
      subst e1
      rw [dr _ _ _ (by decide)] at hpl
      have dr1 (r1 r2 : Int) : drawsG ⟨j + 1, ⟨0, [0, r1, r2, 0, 0, 0, 0, 0], false⟩⟩ = j + 1 := by rw [drawsG, if_neg (fun h => absurd h.2 (by show ¬ 1 ≤ 0; decide))]
      refine tic_quiet h hc hk hgt (LS.out (o' := 9) (rg' := [0, (i : Int), r2, 0, 0, 0, 0, 0]) hb (i := ⟨16, 3, 1, 0, 0⟩) rfl (cellK_ok (by decide)) rfl (by decide)) ⟨?_, _, _, rfl, .inr ⟨rfl, ?_⟩⟩ (fun _ => rfl) (.inl rfl) (by show 8 ≠ 7; decide) (fun u hu hg => ?_) ?_ ?_ ?_
      · rw [dr1, hpl]
      · by_cases hj1 : j + 1 < c
        · exact .inl ⟨hj1, by show 0 < 9; decide, fun h => absurd h (by show ¬ 1 ≤ 0; decide), fun h => absurd h (by show ¬ 2 ≤ 0; decide), fun h => absurd h (by show ¬ (0 = 3 ∨ 0 = 4); decide), fun h => absurd h (by show ¬ (0 = 5 ∨ 0 = 6); decide)⟩
        · exact .inr ⟨by show j + 1 = c; omega, rfl⟩
      · have := (hheld u hu hg).2.2.1
        exact absurd this (by show ¬ 8 ≤ 6; decide)
      · rw [dr _ _ _ (by decide), dr1]
      · show ansT t (m.el ++ [⟨((m.k + 1 : Nat) : Int), 3, (t : Int), IntKind.i64.wrap (i : Int)⟩]) = dupL ((pos t D).take (j + 1)) ++ (if (false : Bool) = false ∧ 6 ≤ 0 then _ else [])
        rw [ansT_snoc, if_pos ⟨rfl, rfl⟩, htold, if_pos (by decide), if_neg (by decide), List.append_nil, List.take_add_one, e2]
        have : i < D.length := (List.getElem?_eq_some_iff.1 (pos_mem.1 (List.mem_of_getElem? e2))).1
        dsimp only
        rw [wrap_i64 (i : Int) (by omega) (by omega), show (some i).toList = [i] from rfl, dupL_snoc, List.append_assoc]
        rfl
      · rw [lp]
        show (if (false : Bool) = true then 0 else if j + 1 < c then _ else 1) + 1 ≤ _
        rw [if_neg (by decide)]
        split
        · show 103 * (c - (j + 1 + 1)) + 103 + 1 + 1 ≤ 103 * (c - (j + 1)) + 1 + 1
          omega
        · show 1 + 1 ≤ 103 * (c - (j + 1)) + 1 + 1
          omega
  · have d0 : drawsG ⟨j, ⟨0, [0, r1, r2, 0, 0, 0, 0, 0], false⟩⟩ = j := by rw [drawsG, if_neg (fun h => absurd h.2 (by show ¬ 1 ≤ 0; decide))]; rfl
    have d1 : drawsG ⟨j, ⟨1, [0, r1, r2, 0, 0, 0, 0, 0], true⟩⟩ = j := by rw [drawsG, if_neg (by simp)]; rfl
    refine tic_quiet h hc hk hgt (LS.halt (by simp)) ⟨?_, _, _, rfl, .inl ⟨rfl, rfl⟩⟩ (fun _ => rfl) (.inl rfl) (by show 0 ≠ 7; decide) (fun u hu hg => ?_) ?_ ?_ ?_
    · rw [d1]; rw [d0] at hpl; exact hpl
    · have := (hheld u hu hg).2.1
      exact absurd this (by show ¬ 1 ≤ 0; decide)
    · rw [d0, d1]
    · exact htold
    · show 0 + 1 ≤ (if (false : Bool) = true then 0 else if j < j then _ else 1)
      rw [if_neg (by decide), if_neg (by omega)]
      exact Nat.le_refl _

def TicI (B n c : Nat) (m : MZ) : Prop := ∃ D w gs, TicJ B n c D w gs m

theorem TicJ.mono {B' : Nat} (h : TicJ B n c D w gs m) (hb : B ≤ B') : TicJ B' n c D w gs m :=
  ⟨h.sys, h.hn, h.th, h.wl, h.inn, h.held, h.len, h.sl, h.fo, h.told, Nat.le_trans h.pot hb⟩

theorem TicI.step (h : TicI B n c m) (t : Int) : TicI B n c (stepZ m t).2 := by
  obtain ⟨D, w, gs, h⟩ := h
  rcases step_or h.sys.wf t with e | ⟨s, rfl, hc, hk⟩
  · rw [e]; exact ⟨D, w, gs, h⟩
  · exact tic_step h hc hk

theorem TicJ.poke (h : TicJ B n c D w gs m) (t : Int) : TicJ (B + 6) n c D w gs (pokeZ m t) := by
  refine ⟨h.sys.poke t, h.hn, h.th, h.wl, h.inn, h.held, h.len, fun s hs => h.sl s (List.mem_filter.1 hs).1, h.fo, h.told, ?_⟩
  have h1 := h.pot
  have h2 := filter_lenS (t := t) h.sys.wf.ss.1
  show m.k + (rsum n (fun t => tlp c w (gs t)) + 6 * (n - (m.ss.filter fun s => s.t != t).length)) ≤ B + 6
  omega

end

theorem tic_right {c : Nat} (hc : c ≤ 5) : rightZ (catP (ticL c)) 2 = true := by
  refine catP_right (by decide) (fun b hb => ?_) ?_
  · obtain ⟨_, _, rfl⟩ := List.mem_map.1 hb
    show ∀ i ∈ ticB, okI 2 ((9 : Int) + 1) i = true
    decide
  · have := offB_le (n := 9) (ticL c) (fun b hb => by obtain ⟨_, _, rfl⟩ := List.mem_map.1 hb; exact Nat.le_refl 9) (ticL c).length
    rw [List.length_map, List.length_replicate] at this ⊢
    omega

def ticM (n c : Nat) : MZ := mz0 (List.replicate n (catP (ticL c))) [0, 0]

theorem tic_init {n c : Nat} (hn : n ≤ 8) (hc : c ≤ 5) : TicJ 4176 n c [] 0 (fun _ => ⟨0, th0⟩) (ticM n c) := by
  have hts : ∀ t, t < n → (ticM n c).ts[t]? = some th0 := fun t ht => by
    show (List.replicate (List.replicate n _).length th0)[t]? = _
    rw [List.length_replicate, List.getElem?_replicate, if_pos ht]
  have d0 : drawsG ⟨0, th0⟩ = 0 := rfl
  refine ⟨⟨mz0_wf (by simp; omega) (by simp) (fun p hp => ?_) (by simp), by simp [ticM, mz0], rfl, fun t ht => ?_, rfl, fun t ht => ?_⟩, ⟨hn, hc⟩, fun t ht => ?_, Nat.le_refl _, (fun t h => by cases h), (fun i t _ h => by simp at h), ?_, (fun s hs => by cases hs), ⟨rfl, rfl⟩, fun t ht => rfl, ?_⟩
  · obtain rfl := (List.mem_replicate.1 hp).2
    exact tic_right hc
  · show (List.replicate n _)[t]? = _
    rw [List.getElem?_replicate, if_pos ht]
  · rw [hts t ht]; rfl
  · refine ⟨rfl, 0, 0, rfl, .inr ⟨rfl, ?_⟩⟩
    by_cases h0 : 0 < c
    · exact .inl ⟨h0, by show 0 < 9; decide, fun h => absurd h (by show ¬ 1 ≤ 0; decide), fun h => absurd h (by show ¬ 2 ≤ 0; decide), fun h => absurd h (by show ¬ (0 = 3 ∨ 0 = 4); decide), fun h => absurd h (by show ¬ (0 = 5 ∨ 0 = 6); decide)⟩
    · exact .inr ⟨by show 0 = c; omega, rfl⟩
  · rw [rsum_zero fun _ _ => d0]; rfl
  · have h1 : rsum n (fun _ => tlp c 0 ⟨0, th0⟩) ≤ n * 516 := rsum_const _ _ _ fun t ht => by
      show (if (false : Bool) = true then 0 else if 0 < c then 103 * (c - (0 + 1)) + 103 + 1 else 1) ≤ 516
      rw [if_neg (by decide)]
      split <;> omega
    have h2 : n * 516 ≤ 8 * 516 := Nat.mul_le_mul_right _ hn
    show 0 + (_ + 6 * (n - 0)) ≤ 4176
    omega

theorem tic_moves {n c : Nat} (hn : n ≤ 8) (hc : c ≤ 5) (ms : List MoveZ) : TicI (4176 + 6 * ms.length) n c (movesZ (ticM n c) ms) := by
  have := moves_inv (P := fun i m => TicI (4176 + 6 * i) n c m)
    (fun i m t h => by obtain ⟨D, w, gs, h⟩ := h.step t; exact ⟨D, w, gs, h.mono (by omega)⟩) (fun i m t h => by obtain ⟨D, w, gs, h⟩ := h; exact ⟨D, w, gs, (h.poke t).mono (by omega)⟩) ms 0 _ ⟨_, _, _, tic_init hn hc⟩
  rw [Nat.zero_add] at this
  exact this

theorem dup_len (l : List Nat) : (dupL l).length = 2 * l.length := by
  induction l with
  | nil => rfl
  | cons a l ih => show (dupL l).length + 1 + 1 = _; rw [ih, List.length_cons]; omega

/-- In the end: all are at their ends; each ticket was told to whoever drew it. -/
theorem tic_fin {B n c : Nat} {z : MZ} (h : TicI B n c z) (hb : B < 20000) : allZ (finish z) = true ∧ ∃ D : List Nat, D.length = n * c ∧ (finish z).ws = [((n * c : Nat) : Int), ((n * c : Nat) : Int)] ∧ drew (finish z).al = castL D ∧ freed (finish z).al = castL D ∧ ∀ t, t < n → (pos t D).length = c ∧ ansT t (finish z).el = dupL (pos t D) := by
  have hw : WF z := by obtain ⟨_, _, _, h⟩ := h; exact h.sys.wf
  obtain ⟨h1, hno⟩ := fin_stop (P := TicI B n c) (fun m t h => h.step t) (fun m h => by obtain ⟨_, _, _, h⟩ := h; have := h.pot; omega) h hw
  obtain ⟨D, w, gs, hJ⟩ := h1
  generalize finish z = y at hJ hno
  have done {t : Nat} (ht : t < n) (hd : (gs t).y.dn = true) : (gs t).j = c := by
    obtain ⟨_, r1, r2, _, h1 | ⟨h1, _⟩⟩ := hJ.th t ht
    · exact h1.2
    · rw [hd] at h1; cases h1
  have no7 (u : Nat) (hu : u < n) : ¬ ((gs u).y.pc = 7 ∧ (gs u).y.dn = false) := fun ⟨h7, hd⟩ => by
    rcases hJ.sys.stop hno hu with hd' | ⟨s, hs, e⟩
    · rw [hd] at hd'; cases hd'
    · have := (hJ.sl s hs).2.1
      rw [e, Int.toNat_natCast, h7] at this
      cases this
  have slp : ∀ s ∈ y.ss, ∃ t i : Nat, t < n ∧ s.t = t ∧ D[i]? = some t ∧ w < i ∧ rgZ (gs t).y.rg 1 = i := fun s hs => by
    obtain ⟨_, h4, hd, hj, hr⟩ := hJ.sl s hs
    have hb := hJ.sys.wf.ss.2 s hs
    rw [hJ.sys.ln] at hb
    obtain ⟨t, ht⟩ : ∃ t : Nat, s.t = t := ⟨s.t.toNat, by omega⟩
    rw [ht, Int.toNat_natCast] at h4 hd hj hr
    have hr : rgZ (gs t).y.rg 2 = w := hr.elim id fun ⟨u, hu, h⟩ => absurd h (no7 u hu)
    have htn : t < n := by omega
    obtain ⟨_, r1, r2, hrg, h1 | ⟨_, ⟨_, _, k1, _, k3, _⟩ | h1⟩⟩ := hJ.th t htn
    · rw [hd] at h1; cases h1.1
    · rw [h4] at k1 k3
      obtain ⟨i, e1, e2, e3⟩ := k1 (by decide)
      have k3 := k3 (.inr rfl)
      have e3 := e3 (by decide)
      rw [hrg] at hr
      have hr : r2 = w := hr
      refine ⟨t, i, htn, ht, pos_mem.1 (List.mem_of_getElem? e2), by omega, ?_⟩
      rw [hrg]
      exact e1
    · omega
  have hwD : w = D.length := Classical.byContradiction fun hne => by
    have hwl := hJ.wl
    obtain ⟨t, ht⟩ : ∃ t, D[w]? = some t := ⟨_, List.getElem?_eq_getElem (by omega)⟩
    have htn := hJ.inn t (List.mem_of_getElem? ht)
    obtain ⟨q1, q2, q3, q4⟩ := hJ.held w t (Nat.le_refl _) ht
    rcases hJ.sys.stop hno htn with hd | ⟨s, hs, e⟩
    · rw [q1] at hd; cases hd
    · obtain ⟨t', i, _, e', _, hwi, q5⟩ := slp s hs
      obtain rfl : t = t' := by omega
      omega
  have hss : y.ss = [] := Classical.byContradiction fun hne => by
    cases hy : y.ss with
    | nil => exact hne hy
    | cons s xs =>
      obtain ⟨t', i, _, _, hD, hwi, _⟩ := slp s (by rw [hy]; simp)
      have := (List.getElem?_eq_some_iff.1 hD).1
      omega
  have hd := hJ.sys.all hno hss
  have hdn {t : Nat} (ht : t < n) : (gs t).y.dn = true := by
    rcases hJ.sys.stop hno ht with hd | ⟨s, hs, _⟩
    · exact hd
    · rw [hss] at hs; cases hs
  have hdr {t : Nat} (ht : t < n) : drawsG (gs t) = c := by
    rw [drawsG, if_neg (by rw [hdn ht]; simp), done ht (hdn ht)]; rfl
  have hlen : D.length = n * c := by
    rw [hJ.len]
    have h1 := rsum_const n c (fun t => drawsG (gs t)) fun s hs => Nat.le_of_eq (hdr hs)
    have h2 : n * c ≤ rsum n (fun t => drawsG (gs t)) := by
      have h3 := rsum_le (n := n) (g := fun _ => c) (h := fun t => drawsG (gs t)) fun s hs => Nat.le_of_eq (hdr hs).symm
      have h4 : rsum n (fun _ => c) = n * c := by
        have := rsum_plus n c (fun _ => 0)
        simp only [Nat.zero_add] at this
        rw [this, rsum_zero fun _ _ => rfl, Nat.zero_add]
      omega
    omega
  refine ⟨all_ofS hd, D, hlen, ?_, hJ.fo.1, ?_, fun t ht => ⟨?_, ?_⟩⟩
  · rw [hJ.sys.ws, hwD, hlen]
  · rw [hJ.fo.2, hwD, List.take_length]
  · rw [(hJ.th t ht).1, hdr ht]
  · rw [hJ.told t ht, toldG, done ht (hdn ht), if_neg (by rw [hdn ht]; simp), List.append_nil]
    have := (hJ.th t ht).1
    rw [hdr ht] at this
    rw [← this, List.take_length]

end Go.Mac
