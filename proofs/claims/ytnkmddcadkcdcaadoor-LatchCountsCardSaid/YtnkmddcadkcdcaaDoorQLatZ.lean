/- Threads that wait at a latch, and count it down: what holds of the machine, whoever goes on when. -/
import Derived.Test.YtnkmddcadkcdcaaDoorQSemaZ
open Go Go.Proofs Go.Mac
set_option maxRecDepth 100000
namespace Go.Mac

abbrev awaitB : List InsZ := [⟨6, 1, 0, 0, 0⟩, ⟨11, 1, 0, 4, 0⟩, ⟨14, 0, 1, 0, 0⟩, ⟨10, 0, 0, 0, 0⟩, ⟨16, 3, 1, 0, 0⟩]
abbrev downB : List InsZ := [⟨6, 1, 0, 0, 0⟩, ⟨11, 1, 0, 9, 0⟩, ⟨3, 2, 1, -1, 0⟩, ⟨9, 3, 0, 1, 2⟩, ⟨11, 3, 0, 0, 0⟩, ⟨2, 1, 2, 0, 0⟩, ⟨11, 2, 0, 8, 0⟩, ⟨10, 9, 0, 0, 0⟩, ⟨15, 0, 16, -1, 0⟩, ⟨16, 3, 1, 0, 0⟩]

/-- A call's body; true: it counts down. -/
def latB : Bool → List InsZ
  | true => downB
  | false => awaitB

def latOk (v : Int) (b : Bool) (o : Nat) (r1 r2 r3 : Int) : Prop :=
  match b with
  | true => o < 10 ∧ (o = 1 → r1 = 0 → v = 0) ∧ (o = 2 → r1 ≠ 0) ∧ (o = 3 → r1 ≠ 0 ∧ r2 = r1 - 1) ∧ (o = 4 → r3 = 0 ∨ r3 = 1)
  | false => o < 5 ∧ (o = 1 → r1 = 0 → v = 0) ∧ (o = 2 → r1 ≠ 0) ∧ (o = 4 → v = 0)

theorem latOk_mono {v v' : Int} (hv : v = 0 → v' = 0) {b : Bool} {o : Nat} {r1 r2 r3 : Int} (h : latOk v b o r1 r2 r3) : latOk v' b o r1 r2 r3 := by
  cases b with
  | true => exact ⟨h.1, fun e e2 => hv (h.2.1 e e2), h.2.2.1, h.2.2.2⟩
  | false => exact ⟨h.1, fun e e2 => hv (h.2.1 e e2), h.2.2.1, fun e => hv (h.2.2.2 e)⟩

def LatG (v : Int) (l : List Bool) (g : GZ) : Prop :=
  ∃ r1 r2 r3 : Int, g.y.rg = [0, r1, r2, r3, 0, 0, 0, 0] ∧ (v ≠ 0 → ∀ i, i < g.j → l[i]? ≠ some false) ∧ (g.y.dn = true ∧ g.j = l.length ∨ g.y.dn = false ∧ ((∃ b, l[g.j]? = some b ∧ latOk v b g.y.pc r1 r2 r3) ∨ g.j = l.length ∧ g.y.pc = 0))

theorem LatG.mono {v v' : Int} (hv : v = 0 → v' = 0) {l : List Bool} {g : GZ} (h : LatG v l g) : LatG v' l g := by
  obtain ⟨r1, r2, r3, h1, h2, h3⟩ := h
  refine ⟨r1, r2, r3, h1, fun hne => h2 fun e => hne (hv e), ?_⟩
  rcases h3 with h3 | ⟨h3, ⟨b, h4, h5⟩ | h4⟩
  · exact .inl h3
  · exact .inr ⟨h3, .inl ⟨b, h4, latOk_mono hv h5⟩⟩
  · exact .inr ⟨h3, .inr h4⟩

def dnN (c : Option Bool) (o : Nat) (r3 : Int) : Nat :=
  match c with
  | some true => if o ≤ 3 ∨ (o = 4 ∧ r3 = 0) then 1 else 0
  | _ => 0
def wkN (c : Option Bool) (o : Nat) (r2 r3 : Int) : Bool :=
  match c with
  | some true => (o == 4 && r3 != 0 && r2 == 0) || ((o == 5 || o == 6) && r2 == 0) || o == 8
  | _ => false
def lpN (v : Int) (c : Option Bool) (o : Nat) (r1 r3 : Int) : Nat :=
  match c with
  | none => 0
  | some true => match o with
    | 0 => 85
    | 1 => if r1 = v then 84 else 89
    | 2 => if r1 = v then 83 else 88
    | 3 => if r1 = v then 82 else 87
    | 4 => if r3 = 0 then 86 else 41
    | 5 => 40
    | 6 => 39
    | 7 => 2
    | 8 => 38
    | _ => 1
  | some false => match o with
    | 0 => 84
    | 1 => if r1 = v then 83 else 88
    | 2 => if r1 = v then 82 else 87
    | 3 => 85
    | _ => 1

/-- Counts left; who is about to wake; what is left to do. -/
def dnG (l : List Bool) (g : GZ) : Nat := cnt true l (g.j + 1) + dnN l[g.j]? g.y.pc (rgZ g.y.rg 3)
def wkG (l : List Bool) (g : GZ) : Bool := wkN l[g.j]? g.y.pc (rgZ g.y.rg 2) (rgZ g.y.rg 3)
def lpG (v : Int) (l : List Bool) (g : GZ) : Nat := if g.y.dn = true then 0 else 85 * (l.length - (g.j + 1)) + lpN v l[g.j]? g.y.pc (rgZ g.y.rg 1) (rgZ g.y.rg 3) + 1

theorem dn_next (l : List Bool) (j : Nat) (r3 : Int) : cnt true l (j + 1) + dnN l[j]? 0 r3 = cnt true l j := by
  cases h : l[j]? with
  | none => rw [cnt_end (by have := List.getElem?_eq_none_iff.1 h; omega), cnt_end (List.getElem?_eq_none_iff.1 h)]; rfl
  | some b => rw [cnt_at (b := true) h]; cases b <;> rfl

theorem lp_next (v : Int) (l : List Bool) (j : Nat) (r1 r3 : Int) : 85 * (l.length - (j + 1)) + lpN v l[j]? 0 r1 r3 ≤ 85 * (l.length - j) := by
  cases h : l[j]? with
  | none => show _ + 0 ≤ _; omega
  | some b =>
    have := (List.getElem?_eq_some_iff.1 h).1
    cases b
    · show _ + 84 ≤ _; omega
    · show _ + 85 ≤ _; omega

theorem lpN_mono (v w : Int) (c : Option Bool) (o : Nat) (r1 r3 : Int) : lpN w c o r1 r3 ≤ lpN v c o r1 r3 + 5 := by
  unfold lpN
  split
  · omega
  · split <;> (repeat' split) <;> omega
  · split <;> (repeat' split) <;> omega

theorem lpG_mono {v w : Int} {d : Nat} (h : w = v ∨ d = 5) (l : List Bool) (g : GZ) : lpG w l g ≤ lpG v l g + d := by
  rcases h with rfl | rfl
  · omega
  · unfold lpG
    have := lpN_mono v w l[g.j]? g.y.pc (rgZ g.y.rg 1) (rgZ g.y.rg 3)
    split <;> omega

/-- What changes the cell takes one. -/
def latA (a : ActZ) : Prop := a.y = a.x ∨ a.o = 9 ∧ 0 < a.x ∧ a.x ≤ 100 ∧ a.y = a.x - 1

structure LatJ (B D n : Nat) (first : Int) (ls : Nat → List Bool) (gs : Nat → GZ) (v : Int) (m : MZ) : Prop where
  sys : Sys n (fun t => (ls t).map latB) gs v m
  hn : n ≤ 9
  th : ∀ t, t < n → LatG v (ls t) (gs t)
  v0 : 0 ≤ v ∧ v ≤ 100
  lo : first + rsum n (fun t => dnG (ls t) (gs t)) ≤ v + D
  hi : v ≠ 0 → v + D = first + rsum n (fun t => dnG (ls t) (gs t))
  sl : ∀ s ∈ m.ss, s.c = 0 ∧ (ls s.t.toNat)[(gs s.t.toNat).j]? = some false ∧ (gs s.t.toNat).y.pc = 3 ∧ (gs s.t.toNat).y.dn = false
  jn : m.ss ≠ [] → v = 0 → ∃ t, t < n ∧ wkG (ls t) (gs t) = true
  fo : ∀ a ∈ m.al, latA a
  pot : m.k + (rsum n (fun t => lpG v (ls t) (gs t)) + 4 * (n - m.ss.length)) ≤ B

section
variable {B D n : Nat} {first : Int} {ls : Nat → List Bool} {gs : Nat → GZ} {v : Int} {m : MZ}

/-- What a step comes to: where its thread goes, and what holds behind it. -/
def LatN (B D n : Nat) (first : Int) (ls : Nat → List Bool) (gs : Nat → GZ) (v : Int) (m : MZ) (t : Nat) (v' : Int) : Prop :=
  ∃ i y' e, insG ((ls t).map latB) (gs t) = some i ∧ oneC i = true ∧ nextZ i (gs t).y v = (y', v', e) ∧ LatJ B D n first ls (updG gs t (normG ((ls t).map latB) ⟨(gs t).j, y'⟩)) v' (stepZ m t).2

theorem lat_updJ (h : LatJ B D n first ls gs v m) {t : Nat} (hc : canZ m t = true) (hk : m.k < 20000) {g g' : GZ} (hgt : gs t = g) {i : InsZ} (hi : insG ((ls t).map latB) g = some i) (ho : oneC i = true)
    {y' : ThZ} {v' : Int} {e : Eff} {d : Nat} (hnx : nextZ i g.y v = (y', v', e)) (hg : normG ((ls t).map latB) ⟨g.j, y'⟩ = g') (hT : LatG v' (ls t) g') (hv0 : 0 ≤ v' ∧ v' ≤ v) (hd : v' = v ∧ d = 0 ∨ d = 5)
    (hlo : v + dnG (ls t) g' ≤ v' + dnG (ls t) g) (hhi : v' ≠ 0 → v' + dnG (ls t) g = v + dnG (ls t) g')
    (hsl : ∀ s ∈ effS t m.ss e, s ∈ m.ss ∨ s = ⟨t, 0⟩ ∧ (ls t)[g'.j]? = some false ∧ g'.y.pc = 3 ∧ g'.y.dn = false)
    (hjn : effS t m.ss e ≠ [] → v' = 0 → ∃ s, s < n ∧ wkG (ls s) (updG gs t g' s) = true)
    (hfo : ∀ a ∈ effA (m.k + 1) t m.al e, latA a)
    (hp : lpG v' (ls t) g' + 4 * m.ss.length + 8 * d + 1 ≤ lpG v (ls t) g + 4 * (effS t m.ss e).length) : LatJ B D n first ls (updG gs t g') v' (stepZ m t).2 := by
  obtain ⟨ht, hdn, hno⟩ := h.sys.can hc
  subst hgt
  obtain ⟨hs, e1, e2, e3, e4⟩ := h.sys.go hc hk hi ho hnx
  rw [hg] at hs
  have hn9 := h.hn
  have hl1 := ss_len h.sys.wf
  have hl2 := ss_len hs.wf
  rw [h.sys.ln] at hl1
  rw [hs.ln, e1] at hl2
  have hsd := rsum_set (n := n) (gs := gs) (g := gs t) (fun s g => dnG (ls s) g) (g' := g') ht rfl
  try dsimp only at hsd
  have hV := h.v0
  refine ⟨hs, h.hn, fun s hsn => ?_, ⟨hv0.1, by omega⟩, ?_, fun hne => ?_, fun s hsm => ?_, ?_, ?_, ?_⟩
  · by_cases hst : s = t
    · subst hst; rw [updG_same]; exact hT
    · rw [updG_ne _ _ hst]; exact (h.th s hsn).mono fun e => by omega
  · have := h.lo
    omega
  · have := h.hi (by omega)
    have := hhi hne
    omega
  · rw [e1] at hsm
    rcases hsl s hsm with hs' | ⟨rfl, h1, h2, h3⟩
    · obtain ⟨h1, h2⟩ := h.sl s hs'
      have hst : s.t.toNat ≠ t := fun e => by
        have := h.sys.wf.ss.2 s hs'
        exact hno s hs' (by omega)
      rw [updG_ne _ _ hst]
      exact ⟨h1, h2⟩
    · show 0 = 0 ∧ (ls ((t : Int).toNat))[(updG gs t g' (t : Int).toNat).j]? = some false ∧ _
      rw [Int.toNat_natCast, updG_same]
      exact ⟨rfl, h1, h2, h3⟩
  · rw [e1]; exact hjn
  · rw [e2]; exact hfo
  · rw [e1, e4]
    have hpot := h.pot
    have hsum := rsum_upd (n := n) (t := t) (g := fun s => lpG v' (ls s) (updG gs t g' s)) (h := fun s => lpG v (ls s) (gs s) + d) ht fun s _ hne => by
      rw [updG_ne _ _ hne]
      exact lpG_mono (by omega) _ _
    try dsimp only at hsum
    rw [updG_same, rsum_plus] at hsum
    have hnd : n * d ≤ 9 * d := Nat.mul_le_mul_right _ hn9
    omega

theorem lat_upd (h : LatJ B D n first ls gs v m) {t : Nat} (hc : canZ m t = true) (hk : m.k < 20000) {g g' : GZ} (hgt : gs t = g) {i : InsZ} (hi : insG ((ls t).map latB) g = some i) (ho : oneC i = true)
    {y' : ThZ} {v' : Int} {e : Eff} {d : Nat} (hnx : nextZ i g.y v = (y', v', e)) (hg : normG ((ls t).map latB) ⟨g.j, y'⟩ = g') (hT : LatG v' (ls t) g') (hv0 : 0 ≤ v' ∧ v' ≤ v) (hd : v' = v ∧ d = 0 ∨ d = 5)
    (hlo : v + dnG (ls t) g' ≤ v' + dnG (ls t) g) (hhi : v' ≠ 0 → v' + dnG (ls t) g = v + dnG (ls t) g')
    (hsl : ∀ s ∈ effS t m.ss e, s ∈ m.ss ∨ s = ⟨t, 0⟩ ∧ (ls t)[g'.j]? = some false ∧ g'.y.pc = 3 ∧ g'.y.dn = false)
    (hjn : effS t m.ss e ≠ [] → v' = 0 → ∃ s, s < n ∧ wkG (ls s) (updG gs t g' s) = true)
    (hfo : ∀ a ∈ effA (m.k + 1) t m.al e, latA a)
    (hp : lpG v' (ls t) g' + 4 * m.ss.length + 8 * d + 1 ≤ lpG v (ls t) g + 4 * (effS t m.ss e).length) : LatN B D n first ls gs v m t v' := by
  have hJ := lat_updJ h hc hk hgt hi ho hnx hg hT hv0 hd hlo hhi hsl hjn hfo hp
  subst hgt hg
  exact ⟨i, y', e, hi, ho, hnx, hJ⟩

theorem lat_plain (h : LatJ B D n first ls gs v m) {t : Nat} (hc : canZ m t = true) (hk : m.k < 20000) {g g' : GZ} (hgt : gs t = g) {i : InsZ} (hi : insG ((ls t).map latB) g = some i) (ho : oneC i = true)
    {y' : ThZ} {v' : Int} {e : Eff} {d : Nat} (hnx : nextZ i g.y v = (y', v', e)) (hg : normG ((ls t).map latB) ⟨g.j, y'⟩ = g') (he : ∀ ss, effS t ss e = ss) (hT : LatG v' (ls t) g') (hv0 : 0 ≤ v' ∧ v' ≤ v) (hd : v' = v ∧ d = 0 ∨ d = 5)
    (hlo : v + dnG (ls t) g' ≤ v' + dnG (ls t) g) (hhi : v' ≠ 0 → v' + dnG (ls t) g = v + dnG (ls t) g')
    (hwk : v' = 0 → v ≠ 0 ∨ wkG (ls t) g = true → wkG (ls t) g' = true)
    (hfo : ∀ a ∈ effA (m.k + 1) t m.al e, latA a)
    (hp : lpG v' (ls t) g' + 8 * d + 1 ≤ lpG v (ls t) g) : LatN B D n first ls gs v m t v' := by
  obtain ⟨ht, hdn, hno⟩ := h.sys.can hc
  refine lat_upd h hc hk hgt hi ho hnx hg hT hv0 hd hlo hhi (fun s hs => .inl (by rwa [he] at hs)) (fun hne hz => ?_) hfo (by rw [he]; omega)
  rw [he] at hne
  by_cases hv : v = 0
  · obtain ⟨s, hs, hw⟩ := h.jn hne hv
    by_cases hst : s = t
    · subst hst
      exact ⟨s, hs, by rw [updG_same]; exact hwk hz (.inr (by rw [← hgt]; exact hw))⟩
    · exact ⟨s, hs, by rw [updG_ne _ _ hst]; exact hw⟩
  · exact ⟨t, ht, by rw [updG_same]; exact hwk hz (.inl hv)⟩

theorem lat_at {l : List Bool} {j : Nat} {b : Bool} (hb : l[j]? = some b) (y : ThZ) : insG (l.map latB) ⟨j, y⟩ = (latB b)[y.pc]? := by
  rw [insG]
  simp [hb]

theorem lat_in {l : List Bool} {j : Nat} {b : Bool} (hb : l[j]? = some b) {y : ThZ} (h : y.pc < (latB b).length) : normG (l.map latB) ⟨j, y⟩ = ⟨j, y⟩ := by
  rw [normG]
  simp only [List.getElem?_map, hb, Option.map_some]
  rw [if_neg (by omega)]

theorem lat_out {l : List Bool} {j : Nat} {b : Bool} (hb : l[j]? = some b) {y : ThZ} (h : y.pc = (latB b).length) : normG (l.map latB) ⟨j, y⟩ = ⟨j + 1, { y with pc := 0 }⟩ := by
  rw [normG]
  simp only [List.getElem?_map, hb, Option.map_some]
  rw [if_pos h]

theorem lat_G {l : List Bool} {j : Nat} {b : Bool} (hb : l[j]? = some b) (hv : v ≠ 0 → ∀ i, i < j + 1 → l[i]? ≠ some false) (r1 r2 r3 : Int) : LatG v l ⟨j + 1, ⟨0, [0, r1, r2, r3, 0, 0, 0, 0], false⟩⟩ := by
  have hlt := (List.getElem?_eq_some_iff.1 hb).1
  refine ⟨r1, r2, r3, rfl, hv, .inr ⟨rfl, ?_⟩⟩
  cases h : l[j + 1]? with
  | none => exact .inr ⟨by have := List.getElem?_eq_none_iff.1 h; show j + 1 = _; omega, rfl⟩
  | some c =>
    refine .inl ⟨c, by first | exact h | rfl, ?_⟩
    cases c <;> simp only [latOk] <;> omega

theorem latWake {l : List Slp} (h : ∀ s ∈ l, s.c = 0) (hl : l.length ≤ 16) : (wakeL 0 16 0 l).2 = [] := by
  have : ∀ (l : List Slp) (k : Nat), (∀ s ∈ l, s.c = 0) → k + l.length ≤ 16 → (wakeL 0 16 k l).2 = [] := by
    intro l
    induction l with
    | nil => intro _ _ _; rfl
    | cons x xs ih =>
      intro k hs hk
      rw [List.length_cons] at hk
      rw [wakeL, if_pos ⟨hs x (by simp), by omega⟩]
      exact ih (k + 1) (fun s hs' => hs s (by simp [hs'])) (by omega)
  exact this l 0 h (by omega)

end
end Go.Mac
