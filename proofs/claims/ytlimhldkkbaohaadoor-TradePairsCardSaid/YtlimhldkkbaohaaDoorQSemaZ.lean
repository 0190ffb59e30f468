/- Threads that take, and give: what holds of the machine, whoever goes on when. -/
import Derived.Test.YtlimhldkkbaohaaDoorQOneCell
open Go Go.Proofs Go.Mac
set_option maxRecDepth 100000
namespace Go.Mac

abbrev takeB : List InsZ := [⟨6, 1, 0, 0, 0⟩, ⟨11, 1, 0, 6, 0⟩, ⟨3, 2, 1, -1, 0⟩, ⟨9, 3, 0, 1, 2⟩, ⟨11, 3, 0, 0, 0⟩, ⟨10, 8, 0, 0, 0⟩, ⟨14, 0, 1, 0, 0⟩, ⟨10, 0, 0, 0, 0⟩, ⟨16, 3, 2, 0, 0⟩]
abbrev giveB : List InsZ := [⟨8, 1, 0, 1, 0⟩, ⟨3, 2, 1, 1, 0⟩, ⟨15, 0, 1, -1, 0⟩, ⟨16, 3, 2, 0, 0⟩]

/-- A call's body; true: it gives. -/
def semB : Bool → List InsZ
  | true => giveB
  | false => takeB

def semOk (b : Bool) (o : Nat) (r1 r2 r3 : Int) : Prop :=
  match b with
  | true => o < 4
  | false => o < 9 ∧ (o = 2 → r1 ≠ 0) ∧ (o = 3 → r1 ≠ 0 ∧ r2 = r1 - 1) ∧ (o = 4 → r3 = 0 ∨ r3 = 1) ∧ (o = 6 → r1 = 0)

def SemG (l : List Bool) (g : GZ) : Prop :=
  ∃ r1 r2 r3 : Int, g.y.rg = [0, r1, r2, r3, 0, 0, 0, 0] ∧ (g.y.dn = true ∧ g.j = l.length ∨ g.y.dn = false ∧ ((∃ b, l[g.j]? = some b ∧ semOk b g.y.pc r1 r2 r3) ∨ g.j = l.length ∧ g.y.pc = 0))

def cnt (b : Bool) (l : List Bool) (j : Nat) : Nat := (l.drop j).count b

theorem cnt_at {b c : Bool} {l : List Bool} {j : Nat} (h : l[j]? = some c) : cnt b l j = cnt b l (j + 1) + if c = b then 1 else 0 := by
  have hlt := (List.getElem?_eq_some_iff.1 h).1
  have e : l.drop j = c :: l.drop (j + 1) := by
    rw [List.drop_eq_getElem_cons hlt]
    rw [List.getElem?_eq_getElem hlt] at h
    rw [Option.some.inj h]
  rw [cnt, e, List.count_cons, cnt]
  simp

theorem cnt_end {b : Bool} {l : List Bool} {j : Nat} (h : l.length ≤ j) : cnt b l j = 0 := by
  rw [cnt, List.drop_of_length_le h]; rfl

def tkN (c : Option Bool) (o : Nat) (r3 : Int) : Nat :=
  match c with
  | some false => if o = 5 ∨ o = 8 ∨ (o = 4 ∧ r3 ≠ 0) then 0 else 1
  | _ => 0
def gvN (c : Option Bool) (o : Nat) : Nat :=
  match c with
  | some true => if o = 0 then 1 else 0
  | _ => 0
def pdN (c : Option Bool) (o : Nat) (r3 : Int) : Nat :=
  match c with
  | some true => if o = 1 ∨ o = 2 then 1 else 0
  | some false => if o = 5 ∨ o = 8 ∨ (o = 4 ∧ r3 ≠ 0) then 0 else 1
  | none => 0
def potN (v : Int) (c : Option Bool) (o : Nat) (r1 r3 : Int) : Nat :=
  match c with
  | none => 0
  | some true => match o with
    | 0 => 53
    | 1 => 7
    | 2 => 6
    | _ => 1
  | some false => match o with
    | 0 => 52
    | 1 => if r1 = v then 51 else 56
    | 2 => if r1 = v then 50 else 55
    | 3 => if r1 = v then 49 else 54
    | 4 => if r3 = 0 then 53 else 3
    | 5 => 2
    | 6 => if r1 = v then 50 else 55
    | 7 => 53
    | _ => 1

/-- Takes left; gives left; who wants to come, or wakes; what is left to say; what is left to do. -/
def tkG (l : List Bool) (g : GZ) : Nat := cnt false l (g.j + 1) + tkN l[g.j]? g.y.pc (rgZ g.y.rg 3)
def gvG (l : List Bool) (g : GZ) : Nat := cnt true l (g.j + 1) + gvN l[g.j]? g.y.pc
def pdG (l : List Bool) (g : GZ) : Nat := pdN l[g.j]? g.y.pc (rgZ g.y.rg 3)
def saG (l : List Bool) (g : GZ) : Nat := l.length - g.j
def potG (v : Int) (l : List Bool) (g : GZ) : Nat := if g.y.dn = true then 0 else 53 * (l.length - (g.j + 1)) + potN v l[g.j]? g.y.pc (rgZ g.y.rg 1) (rgZ g.y.rg 3) + 1

theorem tk_next (l : List Bool) (j : Nat) (r3 : Int) : cnt false l (j + 1) + tkN l[j]? 0 r3 = cnt false l j := by
  cases h : l[j]? with
  | none => rw [cnt_end (by have := List.getElem?_eq_none_iff.1 h; omega), cnt_end (List.getElem?_eq_none_iff.1 h)]; rfl
  | some b => rw [cnt_at (b := false) h]; cases b <;> rfl

theorem gv_next (l : List Bool) (j : Nat) : cnt true l (j + 1) + gvN l[j]? 0 = cnt true l j := by
  cases h : l[j]? with
  | none => rw [cnt_end (by have := List.getElem?_eq_none_iff.1 h; omega), cnt_end (List.getElem?_eq_none_iff.1 h)]; rfl
  | some b => rw [cnt_at (b := true) h]; cases b <;> rfl

theorem pot_next (v : Int) (l : List Bool) (j : Nat) (r1 r3 : Int) : 53 * (l.length - (j + 1)) + potN v l[j]? 0 r1 r3 ≤ 53 * (l.length - j) := by
  cases h : l[j]? with
  | none => show _ + 0 ≤ _; omega
  | some b =>
    have := (List.getElem?_eq_some_iff.1 h).1
    cases b
    · show _ + 52 ≤ _; omega
    · show _ + 53 ≤ _; omega

theorem potN_mono (v w : Int) (c : Option Bool) (o : Nat) (r1 r3 : Int) : potN w c o r1 r3 ≤ potN v c o r1 r3 + 5 := by
  unfold potN
  split
  · omega
  · split <;> omega
  · split <;> (repeat' split) <;> omega

theorem potG_mono {v w : Int} {d : Nat} (h : w = v ∨ d = 5) (l : List Bool) (g : GZ) : potG w l g ≤ potG v l g + d := by
  rcases h with rfl | rfl
  · omega
  · unfold potG
    have := potN_mono v w l[g.j]? g.y.pc (rgZ g.y.rg 1) (rgZ g.y.rg 3)
    split <;> omega

/-- How many there are, by what was done to the cell; none: fewer than none. -/
def leftS (h : Option Int) (a : ActZ) : Option Int :=
  match h with
  | none => none
  | some g => if (if a.o = 9 ∧ a.x ≠ a.y then (if a.o = 8 then g + 1 else g) - 1 else (if a.o = 8 then g + 1 else g)) < 0 then none else some (if a.o = 9 ∧ a.x ≠ a.y then (if a.o = 8 then g + 1 else g) - 1 else (if a.o = 8 then g + 1 else g))

def leftZ (first : Int) (l : List ActZ) : Option Int := l.foldl leftS (some first)

theorem leftZ_snoc (first : Int) (l : List ActZ) (a : ActZ) : leftZ first (l ++ [a]) = leftS (leftZ first l) a := by
  rw [leftZ, List.foldl_append]; rfl

def slp (ss : List Slp) (t : Nat) : Bool := ss.any fun s => s.t == (t : Int)

theorem slp_no {ss : List Slp} {t : Nat} (h : noT ss t) : slp ss t = false := by
  rw [slp, List.any_eq_false]
  exact fun s hs => by simpa using h s hs

structure SemJ (B E n : Nat) (R first : Int) (ls : Nat → List Bool) (gs : Nat → GZ) (v : Int) (m : MZ) : Prop where
  sys : Sys n (fun t => (ls t).map semB) gs v m
  hn : n ≤ 9
  th : ∀ t, t < n → SemG (ls t) (gs t)
  v0 : 0 ≤ v ∧ v ≤ 100 + m.k
  hv : v + rsum n (fun t => gvG (ls t) (gs t)) = R + rsum n (fun t => tkG (ls t) (gs t))
  sl : ∀ s ∈ m.ss, s.c = 0 ∧ (ls s.t.toNat)[(gs s.t.toNat).j]? = some false ∧ (gs s.t.toNat).y.pc = 7 ∧ (gs s.t.toNat).y.dn = false
  jn : m.ss ≠ [] → v ≤ rsum n (fun t => if slp m.ss t = true then 0 else pdG (ls t) (gs t))
  fo : leftZ first m.al = some v
  el : m.el.length + rsum n (fun t => saG (ls t) (gs t)) = E
  pot : m.k + (rsum n (fun t => potG v (ls t) (gs t)) + 4 * (n - m.ss.length)) ≤ B

theorem rsum_set {n t : Nat} (f : Nat → GZ → Nat) {gs : Nat → GZ} {g g' : GZ} (ht : t < n) (hg : gs t = g) : rsum n (fun s => f s (updG gs t g' s)) + f t g = rsum n (fun s => f s (gs s)) + f t g' := by
  have h1 := rsum_upd (n := n) (t := t) (g := fun s => f s (updG gs t g' s)) (h := fun s => f s (gs s)) ht fun s _ hne => by rw [updG_ne _ _ hne]; exact Nat.le_refl _
  have h2 := rsum_upd (n := n) (t := t) (h := fun s => f s (updG gs t g' s)) (g := fun s => f s (gs s)) ht fun s _ hne => by rw [updG_ne _ _ hne]; exact Nat.le_refl _
  try dsimp only at h1 h2
  rw [updG_same, hg] at h1 h2
  omega

theorem rsum_plus (n d : Nat) (g : Nat → Nat) : rsum n (fun s => g s + d) = rsum n g + n * d := by
  induction n with
  | zero => simp [rsum]
  | succ n ih => rw [rsum_succ, rsum_succ, ih, Nat.succ_mul]; omega

section
variable {B E n : Nat} {R first : Int} {ls : Nat → List Bool} {gs : Nat → GZ} {v : Int} {m : MZ}

theorem sem_upd (h : SemJ B E n R first ls gs v m) {t : Nat} (hc : canZ m t = true) (hk : m.k < 20000) {g g' : GZ} (hgt : gs t = g) {i : InsZ} (hi : insG ((ls t).map semB) g = some i) (ho : oneC i = true)
    {y' : ThZ} {v' : Int} {e : Eff} {d : Nat} (hnx : nextZ i g.y v = (y', v', e)) (hg : normG ((ls t).map semB) ⟨g.j, y'⟩ = g') (hT : SemG (ls t) g') (hv0 : 0 ≤ v' ∧ v' ≤ v + 1) (hd : v' = v ∧ d = 0 ∨ d = 5)
    (hR : v' + gvG (ls t) g' + tkG (ls t) g = v + gvG (ls t) g + tkG (ls t) g')
    (hsl : ∀ s ∈ effS t m.ss e, s ∈ m.ss ∨ s = ⟨t, 0⟩ ∧ (ls t)[g'.j]? = some false ∧ g'.y.pc = 7 ∧ g'.y.dn = false)
    (hjn : effS t m.ss e ≠ [] → v' ≤ rsum n (fun s => if slp (effS t m.ss e) s = true then 0 else pdG (ls s) (updG gs t g' s)))
    (hfo : leftZ first (effA (m.k + 1) t m.al e) = some v')
    (hel : (effE (m.k + 1) t m.el e).length + saG (ls t) g' = m.el.length + saG (ls t) g)
    (hp : potG v' (ls t) g' + 4 * m.ss.length + 8 * d + 1 ≤ potG v (ls t) g + 4 * (effS t m.ss e).length) : SemJ B E n R first ls (updG gs t g') v' (stepZ m t).2 := by
  obtain ⟨ht, hdn, hno⟩ := h.sys.can hc
  subst hgt
  obtain ⟨hs, e1, e2, e3, e4⟩ := h.sys.go hc hk hi ho hnx
  rw [hg] at hs
  have hn9 := h.hn
  have hl1 := ss_len h.sys.wf
  have hl2 := ss_len hs.wf
  rw [h.sys.ln] at hl1
  rw [hs.ln, e1] at hl2
  refine ⟨hs, h.hn, fun s hsn => ?_, ?_, ?_, fun s hsm => ?_, ?_, ?_, ?_, ?_⟩
  · by_cases hst : s = t
    · subst hst; rw [updG_same]; exact hT
    · rw [updG_ne _ _ hst]; exact h.th s hsn
  · have := h.v0
    rw [e4]; omega
  · have h1 := rsum_set (n := n) (gs := gs) (g := gs t) (fun s g => gvG (ls s) g) (g' := g') ht rfl
    have h2 := rsum_set (n := n) (gs := gs) (g := gs t) (fun s g => tkG (ls s) g) (g' := g') ht rfl
    have := h.hv
    try dsimp only at h1 h2
    omega
  · rw [e1] at hsm
    rcases hsl s hsm with hs' | ⟨rfl, h1, h2, h3⟩
    · obtain ⟨h1, h2⟩ := h.sl s hs'
      have hst : s.t.toNat ≠ t := fun e => by
        have := h.sys.wf.ss.2 s hs'
        exact hno s hs' (by omega)
      rw [updG_ne _ _ hst]
      exact ⟨h1, h2⟩
    · show 0 = 0 ∧ (ls ((t : Int).toNat))[(updG gs t g' (t : Int).toNat).j]? = some false ∧ _
      rw [Int.toNat_natCast, updG_same]
      exact ⟨rfl, h1, h2, h3⟩
  · rw [e1]; exact hjn
  · rw [e2]; exact hfo
  · rw [e3]
    have h1 := rsum_set (n := n) (gs := gs) (g := gs t) (fun s g => saG (ls s) g) (g' := g') ht rfl
    have := h.el
    try dsimp only at h1
    omega
  · rw [e1, e4]
    have hpot := h.pot
    have hsum := rsum_upd (n := n) (t := t) (g := fun s => potG v' (ls s) (updG gs t g' s)) (h := fun s => potG v (ls s) (gs s) + d) ht fun s _ hne => by
      rw [updG_ne _ _ hne]
      exact potG_mono (by omega) _ _
    try dsimp only at hsum
    rw [updG_same, rsum_plus] at hsum
    have hnd : n * d ≤ 9 * d := Nat.mul_le_mul_right _ hn9
    omega

theorem sem_plain (h : SemJ B E n R first ls gs v m) {t : Nat} (hc : canZ m t = true) (hk : m.k < 20000) {g g' : GZ} (hgt : gs t = g) {i : InsZ} (hi : insG ((ls t).map semB) g = some i) (ho : oneC i = true)
    {y' : ThZ} {v' : Int} {e : Eff} {d : Nat} (hnx : nextZ i g.y v = (y', v', e)) (hg : normG ((ls t).map semB) ⟨g.j, y'⟩ = g') (he : ∀ ss, effS t ss e = ss) (hT : SemG (ls t) g') (hv0 : 0 ≤ v' ∧ v' ≤ v + 1) (hd : v' = v ∧ d = 0 ∨ d = 5)
    (hR : v' + gvG (ls t) g' + tkG (ls t) g = v + gvG (ls t) g + tkG (ls t) g')
    (hpd : v' + pdG (ls t) g ≤ v + pdG (ls t) g')
    (hfo : leftZ first (effA (m.k + 1) t m.al e) = some v')
    (hel : (effE (m.k + 1) t m.el e).length + saG (ls t) g' = m.el.length + saG (ls t) g)
    (hp : potG v' (ls t) g' + 8 * d + 1 ≤ potG v (ls t) g) : SemJ B E n R first ls (updG gs t g') v' (stepZ m t).2 := by
  obtain ⟨ht, hdn, hno⟩ := h.sys.can hc
  refine sem_upd h hc hk hgt hi ho hnx hg hT hv0 hd hR (fun s hs => .inl (by rwa [he] at hs)) (fun hne => ?_) hfo hel (by rw [he]; omega)
  rw [he] at hne ⊢
  have h1 := h.jn hne
  have h2 := rsum_set (n := n) (fun s g => if slp m.ss s = true then 0 else pdG (ls s) g) (g' := g') ht hgt
  try dsimp only at h2
  rw [slp_no hno] at h2
  simp only [Bool.false_eq_true, if_false] at h2
  omega

theorem ins_at {l : List Bool} {j : Nat} {b : Bool} (hb : l[j]? = some b) (y : ThZ) : insG (l.map semB) ⟨j, y⟩ = (semB b)[y.pc]? := by
  rw [insG]
  simp [hb]

theorem norm_in {l : List Bool} {j : Nat} {b : Bool} (hb : l[j]? = some b) {y : ThZ} (h : y.pc < (semB b).length) : normG (l.map semB) ⟨j, y⟩ = ⟨j, y⟩ := by
  rw [normG]
  simp only [List.getElem?_map, hb, Option.map_some]
  rw [if_neg (by omega)]

theorem norm_out {l : List Bool} {j : Nat} {b : Bool} (hb : l[j]? = some b) {y : ThZ} (h : y.pc = (semB b).length) : normG (l.map semB) ⟨j, y⟩ = ⟨j + 1, { y with pc := 0 }⟩ := by
  rw [normG]
  simp only [List.getElem?_map, hb, Option.map_some]
  rw [if_pos h]

theorem next_G {l : List Bool} {j : Nat} {b : Bool} (hb : l[j]? = some b) (r1 r2 r3 : Int) : SemG l ⟨j + 1, ⟨0, [0, r1, r2, r3, 0, 0, 0, 0], false⟩⟩ := by
  have hlt := (List.getElem?_eq_some_iff.1 hb).1
  refine ⟨r1, r2, r3, rfl, .inr ⟨rfl, ?_⟩⟩
  cases h : l[j + 1]? with
  | none => exact .inr ⟨by have := List.getElem?_eq_none_iff.1 h; show j + 1 = _; omega, rfl⟩
  | some c =>
    refine .inl ⟨c, by first | exact h | rfl, ?_⟩
    cases c <;> simp only [semOk] <;> omega

theorem semWake1 {l : List Slp} (h : ∀ s ∈ l, s.c = 0) : (wakeL 0 1 0 l).2 = l.tail := by
  cases l with
  | nil => rfl
  | cons x xs =>
    rw [wakeL, if_pos ⟨h x (by simp), by decide⟩]
    have : ∀ (l : List Slp) (k : Nat), 1 ≤ k → (wakeL 0 1 k l).2 = l := by
      intro l
      induction l with
      | nil => intro _ _; rfl
      | cons x xs ih =>
        intro k hk
        rw [wakeL, if_neg (fun h' => by omega)]
        exact congrArg (x :: ·) (ih k hk)
    exact this xs 1 (Nat.le_refl 1)

end
end Go.Mac
