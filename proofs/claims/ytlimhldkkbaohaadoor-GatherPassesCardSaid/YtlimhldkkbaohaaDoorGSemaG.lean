/- Texts that belong together; the first of them: Threads that take, and give: what holds of the machine, whoever goes on when. -/
import Derived.Test.YtlimhldkkbaohaaDoorGSys
import Derived.Test.YtlimhldkkbaohaaDoorGBase
import Derived.Test.YtlimhldkkbaohaaDoorQCatRight
import Derived.Test.YtlimhldkkbaohaaDoorGMachN

/- Threads that take, and give: what holds of the machine, whoever goes on when. -/
section
open Go Go.Proofs Go.Mac
set_option maxRecDepth 100000
namespace Go.Mac

abbrev takeB : List InsZ := [⟨6, 1, 0, 0, 0⟩, ⟨11, 1, 0, 6, 0⟩, ⟨3, 2, 1, -1, 0⟩, ⟨9, 3, 0, 1, 2⟩, ⟨11, 3, 0, 0, 0⟩, ⟨10, 8, 0, 0, 0⟩, ⟨14, 0, 1, 0, 0⟩, ⟨10, 0, 0, 0, 0⟩, ⟨16, 3, 2, 0, 0⟩]
abbrev giveB : List InsZ := [⟨8, 1, 0, 1, 0⟩, ⟨3, 2, 1, 1, 0⟩, ⟨15, 0, 1, -1, 0⟩, ⟨16, 3, 2, 0, 0⟩]

/-- A call's body; true: it gives. -/
def semB : Bool → List InsZ
  | true => giveB
  | false => takeB

def semOk (b : Bool) (o : Nat) (r1 r2 r3 : Int) : Prop :=
  match b with
  | true => o < 4
  | false => o < 9 ∧ (o = 2 → r1 ≠ 0) ∧ (o = 3 → r1 ≠ 0 ∧ r2 = r1 - 1) ∧ (o = 4 → r3 = 0 ∨ r3 = 1) ∧ (o = 6 → r1 = 0)

def SemG (l : List Bool) (g : GZ) : Prop :=
  ∃ r1 r2 r3 : Int, g.y.rg = [0, r1, r2, r3, 0, 0, 0, 0] ∧ (g.y.dn = true ∧ g.j = l.length ∨ g.y.dn = false ∧ ((∃ b, l[g.j]? = some b ∧ semOk b g.y.pc r1 r2 r3) ∨ g.j = l.length ∧ g.y.pc = 0))

def cnt (b : Bool) (l : List Bool) (j : Nat) : Nat := (l.drop j).count b

theorem cnt_at {b c : Bool} {l : List Bool} {j : Nat} (h : l[j]? = some c) : cnt b l j = cnt b l (j + 1) + if c = b then 1 else 0 := by
  have hlt := (List.getElem?_eq_some_iff.1 h).1
  have e : l.drop j = c :: l.drop (j + 1) := by
    rw [List.drop_eq_getElem_cons hlt]
    rw [List.getElem?_eq_getElem hlt] at h
    rw [Option.some.inj h]
  rw [cnt, e, List.count_cons, cnt]
  simp

theorem cnt_end {b : Bool} {l : List Bool} {j : Nat} (h : l.length ≤ j) : cnt b l j = 0 := by
  rw [cnt, List.drop_of_length_le h]; rfl

def tkN (c : Option Bool) (o : Nat) (r3 : Int) : Nat :=
  match c with
  | some false => if o = 5 ∨ o = 8 ∨ (o = 4 ∧ r3 ≠ 0) then 0 else 1
  | _ => 0
def gvN (c : Option Bool) (o : Nat) : Nat :=
  match c with
  | some true => if o = 0 then 1 else 0
  | _ => 0
def pdN (c : Option Bool) (o : Nat) (r3 : Int) : Nat :=
  match c with
  | some true => if o = 1 ∨ o = 2 then 1 else 0
  | some false => if o = 5 ∨ o = 8 ∨ (o = 4 ∧ r3 ≠ 0) then 0 else 1
  | none => 0
def potN (v : Int) (c : Option Bool) (o : Nat) (r1 r3 : Int) : Nat :=
  match c with
  | none => 0
  | some true => match o with
    | 0 => 53
    | 1 => 7
    | 2 => 6
    | _ => 1
  | some false => match o with
    | 0 => 52
    | 1 => if r1 = v then 51 else 56
    | 2 => if r1 = v then 50 else 55
    | 3 => if r1 = v then 49 else 54
    | 4 => if r3 = 0 then 53 else 3
    | 5 => 2
    | 6 => if r1 = v then 50 else 55
    | 7 => 53
    | _ => 1

/-- Takes left; gives left; who wants to come, or wakes; what is left to say; what is left to do. -/
def tkG (l : List Bool) (g : GZ) : Nat := cnt false l (g.j + 1) + tkN l[g.j]? g.y.pc (rgZ g.y.rg 3)
def gvG (l : List Bool) (g : GZ) : Nat := cnt true l (g.j + 1) + gvN l[g.j]? g.y.pc
def pdG (l : List Bool) (g : GZ) : Nat := pdN l[g.j]? g.y.pc (rgZ g.y.rg 3)
def saG (l : List Bool) (g : GZ) : Nat := l.length - g.j
def potG (v : Int) (l : List Bool) (g : GZ) : Nat := if g.y.dn = true then 0 else 53 * (l.length - (g.j + 1)) + potN v l[g.j]? g.y.pc (rgZ g.y.rg 1) (rgZ g.y.rg 3) + 1

theorem tk_next (l : List Bool) (j : Nat) (r3 : Int) : cnt false l (j + 1) + tkN l[j]? 0 r3 = cnt false l j := by
  cases h : l[j]? with
  | none => rw [cnt_end (by have := List.getElem?_eq_none_iff.1 h; omega), cnt_end (List.getElem?_eq_none_iff.1 h)]; rfl
  | some b => rw [cnt_at (b := false) h]; cases b <;> rfl

theorem gv_next (l : List Bool) (j : Nat) : cnt true l (j + 1) + gvN l[j]? 0 = cnt true l j := by
  cases h : l[j]? with
  | none => rw [cnt_end (by have := List.getElem?_eq_none_iff.1 h; omega), cnt_end (List.getElem?_eq_none_iff.1 h)]; rfl
  | some b => rw [cnt_at (b := true) h]; cases b <;> rfl

theorem pot_next (v : Int) (l : List Bool) (j : Nat) (r1 r3 : Int) : 53 * (l.length - (j + 1)) + potN v l[j]? 0 r1 r3 ≤ 53 * (l.length - j) := by
  cases h : l[j]? with
  | none => show _ + 0 ≤ _; omega
  | some b =>
    have := (List.getElem?_eq_some_iff.1 h).1
    cases b
    · show _ + 52 ≤ _; omega
    · show _ + 53 ≤ _; omega

theorem potN_mono (v w : Int) (c : Option Bool) (o : Nat) (r1 r3 : Int) : potN w c o r1 r3 ≤ potN v c o r1 r3 + 5 := by
  unfold potN
  split
  · omega
  · split <;> omega
  · split <;> (repeat' split) <;> omega

theorem potG_mono {v w : Int} {d : Nat} (h : w = v ∨ d = 5) (l : List Bool) (g : GZ) : potG w l g ≤ potG v l g + d := by
  rcases h with rfl | rfl
  · omega
  · unfold potG
    have := potN_mono v w l[g.j]? g.y.pc (rgZ g.y.rg 1) (rgZ g.y.rg 3)
    split <;> omega

/-- How many there are, by what was done to the cell; none: fewer than none. -/
def leftS (h : Option Int) (a : ActZ) : Option Int :=
  match h with
  | none => none
  | some g => if (if a.o = 9 ∧ a.x ≠ a.y then (if a.o = 8 then g + 1 else g) - 1 else (if a.o = 8 then g + 1 else g)) < 0 then none else some (if a.o = 9 ∧ a.x ≠ a.y then (if a.o = 8 then g + 1 else g) - 1 else (if a.o = 8 then g + 1 else g))

def leftZ (first : Int) (l : List ActZ) : Option Int := l.foldl leftS (some first)

theorem leftZ_snoc (first : Int) (l : List ActZ) (a : ActZ) : leftZ first (l ++ [a]) = leftS (leftZ first l) a := by
  rw [leftZ, List.foldl_append]; rfl

def slp (ss : List Slp) (t : Nat) : Bool := ss.any fun s => s.t == (t : Int)

theorem slp_no {ss : List Slp} {t : Nat} (h : noT ss t) : slp ss t = false := by
  rw [slp, List.any_eq_false]
  exact fun s hs => by simpa using h s hs

structure SemJ (B E n : Nat) (R first : Int) (ls : Nat → List Bool) (gs : Nat → GZ) (v : Int) (m : MZ) : Prop where
  sys : Sys n (fun t => (ls t).map semB) gs v m
  hn : n ≤ 9
  th : ∀ t, t < n → SemG (ls t) (gs t)
  v0 : 0 ≤ v ∧ v ≤ 100 + m.k
  hv : v + rsum n (fun t => gvG (ls t) (gs t)) = R + rsum n (fun t => tkG (ls t) (gs t))
  sl : ∀ s ∈ m.ss, s.c = 0 ∧ (ls s.t.toNat)[(gs s.t.toNat).j]? = some false ∧ (gs s.t.toNat).y.pc = 7 ∧ (gs s.t.toNat).y.dn = false
  jn : m.ss ≠ [] → v ≤ rsum n (fun t => if slp m.ss t = true then 0 else pdG (ls t) (gs t))
  fo : leftZ first m.al = some v
  el : m.el.length + rsum n (fun t => saG (ls t) (gs t)) = E
  pot : m.k + (rsum n (fun t => potG v (ls t) (gs t)) + 4 * (n - m.ss.length)) ≤ B

theorem rsum_set {n t : Nat} (f : Nat → GZ → Nat) {gs : Nat → GZ} {g g' : GZ} (ht : t < n) (hg : gs t = g) : rsum n (fun s => f s (updG gs t g' s)) + f t g = rsum n (fun s => f s (gs s)) + f t g' := by
  have h1 := rsum_upd (n := n) (t := t) (g := fun s => f s (updG gs t g' s)) (h := fun s => f s (gs s)) ht fun s _ hne => by rw [updG_ne _ _ hne]; exact Nat.le_refl _
  have h2 := rsum_upd (n := n) (t := t) (h := fun s => f s (updG gs t g' s)) (g := fun s => f s (gs s)) ht fun s _ hne => by rw [updG_ne _ _ hne]; exact Nat.le_refl _
  try dsimp only at h1 h2
  rw [updG_same, hg] at h1 h2
  omega

theorem rsum_plus (n d : Nat) (g : Nat → Nat) : rsum n (fun s => g s + d) = rsum n g + n * d := by
  induction n with
  | zero => simp [rsum]
  | succ n ih => rw [rsum_succ, rsum_succ, ih, Nat.succ_mul]; omega

section
variable {B E n : Nat} {R first : Int} {ls : Nat → List Bool} {gs : Nat → GZ} {v : Int} {m : MZ}

theorem sem_upd (h : SemJ B E n R first ls gs v m) {t : Nat} (hc : canZ m t = true) (hk : m.k < 20000) {g g' : GZ} (hgt : gs t = g) {i : InsZ} (hi : insG ((ls t).map semB) g = some i) (ho : oneC i = true)
    {y' : ThZ} {v' : Int} {e : Eff} {d : Nat} (hnx : nextZ i g.y v = (y', v', e)) (hg : normG ((ls t).map semB) ⟨g.j, y'⟩ = g') (hT : SemG (ls t) g') (hv0 : 0 ≤ v' ∧ v' ≤ v + 1) (hd : v' = v ∧ d = 0 ∨ d = 5)
    (hR : v' + gvG (ls t) g' + tkG (ls t) g = v + gvG (ls t) g + tkG (ls t) g')
    (hsl : ∀ s ∈ effS t m.ss e, s ∈ m.ss ∨ s = ⟨t, 0⟩ ∧ (ls t)[g'.j]? = some false ∧ g'.y.pc = 7 ∧ g'.y.dn = false)
    (hjn : effS t m.ss e ≠ [] → v' ≤ rsum n (fun s => if slp (effS t m.ss e) s = true then 0 else pdG (ls s) (updG gs t g' s)))
    (hfo : leftZ first (effA (m.k + 1) t m.al e) = some v')
    (hel : (effE (m.k + 1) t m.el e).length + saG (ls t) g' = m.el.length + saG (ls t) g)
    (hp : potG v' (ls t) g' + 4 * m.ss.length + 8 * d + 1 ≤ potG v (ls t) g + 4 * (effS t m.ss e).length) : SemJ B E n R first ls (updG gs t g') v' (stepZ m t).2 := by
  obtain ⟨ht, hdn, hno⟩ := h.sys.can hc
  subst hgt
  obtain ⟨hs, e1, e2, e3, e4⟩ := h.sys.go hc hk hi ho hnx
  rw [hg] at hs
  have hn9 := h.hn
  have hl1 := ss_len h.sys.wf
  have hl2 := ss_len hs.wf
  rw [h.sys.ln] at hl1
  rw [hs.ln, e1] at hl2
  refine ⟨hs, h.hn, fun s hsn => ?_, ?_, ?_, fun s hsm => ?_, ?_, ?_, ?_, ?_⟩
  · by_cases hst : s = t
    · subst hst; rw [updG_same]; exact hT
    · rw [updG_ne _ _ hst]; exact h.th s hsn
  · have := h.v0
    rw [e4]; omega
  · have h1 := rsum_set (n := n) (gs := gs) (g := gs t) (fun s g => gvG (ls s) g) (g' := g') ht rfl
    have h2 := rsum_set (n := n) (gs := gs) (g := gs t) (fun s g => tkG (ls s) g) (g' := g') ht rfl
    have := h.hv
    try dsimp only at h1 h2
    omega
  · rw [e1] at hsm
    rcases hsl s hsm with hs' | ⟨rfl, h1, h2, h3⟩
    · obtain ⟨h1, h2⟩ := h.sl s hs'
      have hst : s.t.toNat ≠ t := fun e => by
        have := h.sys.wf.ss.2 s hs'
        exact hno s hs' (by omega)
      rw [updG_ne _ _ hst]
      exact ⟨h1, h2⟩
    · show 0 = 0 ∧ (ls ((t : Int).toNat))[(updG gs t g' (t : Int).toNat).j]? = some false ∧ _
      rw [Int.toNat_natCast, updG_same]
      exact ⟨rfl, h1, h2, h3⟩
  · rw [e1]; exact hjn
  · rw [e2]; exact hfo
  · rw [e3]
    have h1 := rsum_set (n := n) (gs := gs) (g := gs t) (fun s g => saG (ls s) g) (g' := g') ht rfl
    have := h.el
    try dsimp only at h1
    omega
  · rw [e1, e4]
    have hpot := h.pot
    have hsum := rsum_upd (n := n) (t := t) (g := fun s => potG v' (ls s) (updG gs t g' s)) (h := fun s => potG v (ls s) (gs s) + d) ht fun s _ hne => by
      rw [updG_ne _ _ hne]
      exact potG_mono (by omega) _ _
    try dsimp only at hsum
    rw [updG_same, rsum_plus] at hsum
    have hnd : n * d ≤ 9 * d := Nat.mul_le_mul_right _ hn9
    omega

theorem sem_plain (h : SemJ B E n R first ls gs v m) {t : Nat} (hc : canZ m t = true) (hk : m.k < 20000) {g g' : GZ} (hgt : gs t = g) {i : InsZ} (hi : insG ((ls t).map semB) g = some i) (ho : oneC i = true)
    {y' : ThZ} {v' : Int} {e : Eff} {d : Nat} (hnx : nextZ i g.y v = (y', v', e)) (hg : normG ((ls t).map semB) ⟨g.j, y'⟩ = g') (he : ∀ ss, effS t ss e = ss) (hT : SemG (ls t) g') (hv0 : 0 ≤ v' ∧ v' ≤ v + 1) (hd : v' = v ∧ d = 0 ∨ d = 5)
    (hR : v' + gvG (ls t) g' + tkG (ls t) g = v + gvG (ls t) g + tkG (ls t) g')
    (hpd : v' + pdG (ls t) g ≤ v + pdG (ls t) g')
    (hfo : leftZ first (effA (m.k + 1) t m.al e) = some v')
    (hel : (effE (m.k + 1) t m.el e).length + saG (ls t) g' = m.el.length + saG (ls t) g)
    (hp : potG v' (ls t) g' + 8 * d + 1 ≤ potG v (ls t) g) : SemJ B E n R first ls (updG gs t g') v' (stepZ m t).2 := by
  obtain ⟨ht, hdn, hno⟩ := h.sys.can hc
  refine sem_upd h hc hk hgt hi ho hnx hg hT hv0 hd hR (fun s hs => .inl (by rwa [he] at hs)) (fun hne => ?_) hfo hel (by rw [he]; omega)
  rw [he] at hne ⊢
  have h1 := h.jn hne
  have h2 := rsum_set (n := n) (fun s g => if slp m.ss s = true then 0 else pdG (ls s) g) (g' := g') ht hgt
  try dsimp only at h2
  rw [slp_no hno] at h2
  simp only [Bool.false_eq_true, if_false] at h2
  omega

theorem ins_at {l : List Bool} {j : Nat} {b : Bool} (hb : l[j]? = some b) (y : ThZ) : insG (l.map semB) ⟨j, y⟩ = (semB b)[y.pc]? := by
  rw [insG]
  simp [hb]

theorem norm_in {l : List Bool} {j : Nat} {b : Bool} (hb : l[j]? = some b) {y : ThZ} (h : y.pc < (semB b).length) : normG (l.map semB) ⟨j, y⟩ = ⟨j, y⟩ := by
  rw [normG]
  simp only [List.getElem?_map, hb, Option.map_some]
  rw [if_neg (by omega)]

theorem norm_out {l : List Bool} {j : Nat} {b : Bool} (hb : l[j]? = some b) {y : ThZ} (h : y.pc = (semB b).length) : normG (l.map semB) ⟨j, y⟩ = ⟨j + 1, { y with pc := 0 }⟩ := by
  rw [normG]
  simp only [List.getElem?_map, hb, Option.map_some]
  rw [if_pos h]

theorem next_G {l : List Bool} {j : Nat} {b : Bool} (hb : l[j]? = some b) (r1 r2 r3 : Int) : SemG l ⟨j + 1, ⟨0, [0, r1, r2, r3, 0, 0, 0, 0], false⟩⟩ := by
  have hlt := (List.getElem?_eq_some_iff.1 hb).1
  refine ⟨r1, r2, r3, rfl, .inr ⟨rfl, ?_⟩⟩
  cases h : l[j + 1]? with
  | none => exact .inr ⟨by have := List.getElem?_eq_none_iff.1 h; show j + 1 = _; omega, rfl⟩
  | some c =>
    refine .inl ⟨c, by first | exact h | rfl, ?_⟩
    cases c <;> simp only [semOk] <;> omega

theorem semWake1 {l : List Slp} (h : ∀ s ∈ l, s.c = 0) : (wakeL 0 1 0 l).2 = l.tail := by
  cases l with
  | nil => rfl
  | cons x xs =>
    rw [wakeL, if_pos ⟨h x (by simp), by decide⟩]
    have : ∀ (l : List Slp) (k : Nat), 1 ≤ k → (wakeL 0 1 k l).2 = l := by
      intro l
      induction l with
      | nil => intro _ _; rfl
      | cons x xs ih =>
        intro k hk
        rw [wakeL, if_neg (fun h' => by omega)]
        exact congrArg (x :: ·) (ih k hk)
    exact this xs 1 (Nat.le_refl 1)

end
end Go.Mac
end

/- Threads that take, and give: each step keeps what holds. -/
section
open Go Go.Proofs Go.Mac
set_option maxRecDepth 100000
namespace Go.Mac

theorem gv_at {l : List Bool} {j : Nat} {b : Bool} (h : l[j]? = some b) (y : ThZ) : gvG l ⟨j, y⟩ = cnt true l (j + 1) + gvN (some b) y.pc := by rw [gvG, h]
theorem tk_at {l : List Bool} {j : Nat} {b : Bool} (h : l[j]? = some b) (y : ThZ) : tkG l ⟨j, y⟩ = cnt false l (j + 1) + tkN (some b) y.pc (rgZ y.rg 3) := by rw [tkG, h]
theorem pd_at {l : List Bool} {j : Nat} {b : Bool} (h : l[j]? = some b) (y : ThZ) : pdG l ⟨j, y⟩ = pdN (some b) y.pc (rgZ y.rg 3) := by rw [pdG, h]
theorem pot_at {v : Int} {l : List Bool} {j : Nat} {b : Bool} (h : l[j]? = some b) (o : Nat) (r : List Int) : potG v l ⟨j, ⟨o, r, false⟩⟩ = 53 * (l.length - (j + 1)) + potN v (some b) o (rgZ r 1) (rgZ r 3) + 1 := by rw [potG, h]; rfl

theorem gv_out {l : List Bool} (j : Nat) (r : List Int) : gvG l ⟨j + 1, ⟨0, r, false⟩⟩ = cnt true l (j + 1) := gv_next l (j + 1)
theorem tk_out {l : List Bool} (j : Nat) (r : List Int) : tkG l ⟨j + 1, ⟨0, r, false⟩⟩ = cnt false l (j + 1) := tk_next l (j + 1) _
theorem pot_out (v : Int) {l : List Bool} (j : Nat) (r : List Int) : potG v l ⟨j + 1, ⟨0, r, false⟩⟩ ≤ 53 * (l.length - (j + 1)) + 1 := by
  have := pot_next v l (j + 1) (rgZ r 1) (rgZ r 3)
  show 53 * (l.length - (j + 1 + 1)) + potN v l[j + 1]? 0 (rgZ r 1) (rgZ r 3) + 1 ≤ _
  omega

/-- Does it have it? Where each one takes and gives. -/
def hdN (c : Option Bool) (o : Nat) (r3 : Int) : Bool :=
  match c with
  | some true => o == 0
  | some false => o == 5 || o == 8 || (o == 4 && r3 != 0)
  | none => false
def hdG (l : List Bool) (g : GZ) : Bool := hdN l[g.j]? g.y.pc (rgZ g.y.rg 3)

theorem hd_at {l : List Bool} {j : Nat} {b : Bool} (h : l[j]? = some b) (y : ThZ) : hdG l ⟨j, y⟩ = hdN (some b) y.pc (rgZ y.rg 3) := by rw [hdG, h]

/-- First it takes, then it gives, and so on. -/
def altL (l : List Bool) : Prop := ∀ j, (l[j]? = some false → l[j + 1]? = some true) ∧ (l[j]? = some true → l[j + 1]? ≠ some true)

/-- Who has it, by what was done; -1: nobody; none: it is wrong. -/
def solS (h : Option Int) (a : ActZ) : Option Int :=
  match h with
  | none => none
  | some g => if a.o = 9 ∧ a.x ≠ a.y then (if 0 ≤ g then none else some a.t) else if a.o = 8 then (if g = a.t then some (-1) else none) else some g

def solZ (l : List ActZ) : Option Int := l.foldl solS (some (-1))

theorem solZ_snoc (l : List ActZ) (a : ActZ) : solZ (l ++ [a]) = solS (solZ l) a := by
  rw [solZ, List.foldl_append]; rfl

def OneJ (n : Nat) (ls : Nat → List Bool) (gs : Nat → GZ) (v : Int) (al : List ActZ) : Prop :=
  (∀ t, t < n → altL (ls t)) ∧ ∃ h : Int, solZ al = some h ∧ (∀ t, t < n → (hdG (ls t) (gs t) = true ↔ h = t)) ∧ (h = -1 ∧ v = 1 ∨ 0 ≤ h ∧ h < n ∧ v = 0)

theorem one_same {n : Nat} {ls : Nat → List Bool} {gs : Nat → GZ} {v : Int} {al al' : List ActZ} {t : Nat} {g g' : GZ} (hgt : gs t = g) (hh : hdG (ls t) g' = hdG (ls t) g) (ha : al' = al ∨ ∃ a : ActZ, a.o ≠ 8 ∧ (a.o ≠ 9 ∨ a.x = a.y) ∧ al' = al ++ [a])
    (h : OneJ n ls gs v al) : OneJ n ls (updG gs t g') v al' := by
  obtain ⟨h0, h, h1, h2, h3⟩ := h
  refine ⟨h0, h, ?_, fun s hs => ?_, h3⟩
  · rcases ha with rfl | ⟨a, a1, a2, rfl⟩
    · exact h1
    · rw [solZ_snoc, h1, solS]
      try dsimp only
      rw [if_neg (by rcases a2 with a2 | a2 <;> simp [a2]), if_neg a1]
  · by_cases hst : s = t
    · subst hst; rw [updG_same, hh, ← hgt]; exact h2 s hs
    · rw [updG_ne _ _ hst]; exact h2 s hs

theorem one_take {n : Nat} {ls : Nat → List Bool} {gs : Nat → GZ} {v : Int} {al : List ActZ} {t : Nat} {g' : GZ} {k x : Int} (ht : t < n) (hv : 0 < v) (hh : hdG (ls t) g' = true) (hx : x = v - 1)
    (h : OneJ n ls gs v al) : OneJ n ls (updG gs t g') x (al ++ [⟨k, t, 9, 0, v, x⟩]) := by
  obtain ⟨h0, h, h1, h2, h3⟩ := h
  have hv1 : h = -1 ∧ v = 1 := by omega
  obtain ⟨rfl, rfl⟩ := hv1
  refine ⟨h0, t, ?_, fun s hs => ?_, .inr ⟨by omega, by omega, by omega⟩⟩
  · rw [solZ_snoc, h1, solS]
    try dsimp only
    rw [if_pos ⟨rfl, by omega⟩, if_neg (by decide)]
  · by_cases hst : s = t
    · subst hst; rw [updG_same, hh]; simp
    · rw [updG_ne _ _ hst]
      have := h2 s hs
      constructor
      · intro h; have := this.1 h; omega
      · intro h; omega

theorem one_give {n : Nat} {ls : Nat → List Bool} {gs : Nat → GZ} {v : Int} {al : List ActZ} {t : Nat} {g g' : GZ} {k x y : Int} (ht : t < n) (hgt : gs t = g) (hh : hdG (ls t) g = true) (hh' : hdG (ls t) g' = false)
    (h : OneJ n ls gs v al) : OneJ n ls (updG gs t g') (v + 1) (al ++ [⟨k, t, 8, 0, x, y⟩]) := by
  obtain ⟨h0, h, h1, h2, h3⟩ := h
  have h4 := (h2 t ht).1 (by rw [hgt]; exact hh)
  subst h4
  refine ⟨h0, -1, ?_, fun s hs => ?_, .inl ⟨rfl, by omega⟩⟩
  · rw [solZ_snoc, h1, solS]
    try dsimp only
    rw [if_neg (by simp), if_pos rfl, if_pos rfl]
  · by_cases hst : s = t
    · subst hst; rw [updG_same, hh']; simp <;> omega
    · rw [updG_ne _ _ hst]
      have := h2 s hs
      constructor
      · intro h; have := this.1 h; omega
      · intro h; omega

theorem left_same {v : Int} (hv : 0 ≤ v) {first : Int} {al : List ActZ} (h : leftZ first al = some v) {a : ActZ} (h8 : a.o ≠ 8) (h9 : a.o ≠ 9 ∨ a.x = a.y) : leftZ first (al ++ [a]) = some v := by
  have h10 : ¬ (a.o = 9 ∧ a.x ≠ a.y) := by rcases h9 with h | h <;> simp [h]
  rw [leftZ_snoc, h, leftS]
  rw [if_neg h10, if_neg h8, if_neg (by omega)]

theorem left_take {v : Int} (hv : 0 < v) {first : Int} {al : List ActZ} (h : leftZ first al = some v) {k t x : Int} (hx : x = v - 1) : leftZ first (al ++ [⟨k, t, 9, 0, v, x⟩]) = some x := by
  subst hx
  rw [leftZ_snoc, h]
  have hne : v ≠ v - 1 := by omega
  have h2 : ¬ v - 1 < 0 := by omega
  simp [leftS, hne, h2]

theorem left_give {v : Int} (hv : 0 ≤ v) {first : Int} {al : List ActZ} (h : leftZ first al = some v) {k t x y : Int} : leftZ first (al ++ [⟨k, t, 8, 0, x, y⟩]) = some (v + 1) := by
  rw [leftZ_snoc, h]
  have h2 : ¬ v + 1 < 0 := by omega
  simp [leftS, h2]

theorem rsum_two {n t s0 : Nat} {f1 f2 : Nat → Nat} (ht : t < n) (hs0 : s0 < n) (hne : s0 ≠ t) (h : ∀ s, s < n → s ≠ t → s ≠ s0 → f1 s ≤ f2 s) : rsum n f1 + f2 t + f2 s0 ≤ rsum n f2 + f1 t + f1 s0 := by
  have h1 := rsum_upd (n := n) (t := s0) (g := f1) (h := fun s => if s = t then f1 t else f2 s) hs0 fun s hs hn => by
    show f1 s ≤ if s = t then f1 t else f2 s
    split
    · rename_i e; subst e; exact Nat.le_refl _
    · rename_i e; exact h s hs e hn
  have h2 := rsum_upd (n := n) (t := t) (g := fun s => if s = t then f1 t else f2 s) (h := f2) ht fun s hs hn => by
    show (if s = t then f1 t else f2 s) ≤ f2 s
    rw [if_neg hn]
    exact Nat.le_refl _
  try dsimp only at h1 h2
  rw [if_neg hne] at h1
  rw [if_pos rfl] at h2
  omega

section
variable {B E n : Nat} {R first : Int} {ls : Nat → List Bool} {gs : Nat → GZ} {v : Int} {m : MZ}

theorem sem_step (h : SemJ B E n R first ls gs v m) {t : Nat} (hc : canZ m t = true) (hk : m.k < 20000) : ∃ gs' v', SemJ B E n R first ls gs' v' (stepZ m t).2 ∧ (OneJ n ls gs v m.al → OneJ n ls gs' v' (stepZ m t).2.al) := by
  obtain ⟨ht, hd, hno⟩ := h.sys.can hc
  obtain ⟨r1, r2, r3, hrg, hcase⟩ := h.th t ht
  obtain ⟨g, hgt⟩ : ∃ g, gs t = g := ⟨_, rfl⟩
  rw [hgt] at hd hrg hcase
  obtain ⟨hv0, hv1⟩ := h.v0
  have hx := h.sys.ts t ht
  have hrr := (h.sys.wf.rg _ (List.mem_of_getElem? hx)).2 r1 (by rw [hgt]; show r1 ∈ g.y.rg; rw [hrg]; simp)
  have hfo := h.fo
  obtain ⟨j, o, rg, dn⟩ := g
  dsimp only at hd hrg hcase
  subst hd hrg
  have hal : ∀ {i : InsZ} {y' : ThZ} {v' : Int} {e : Eff}, insG ((ls t).map semB) ⟨j, ⟨o, [0, r1, r2, r3, 0, 0, 0, 0], false⟩⟩ = some i → oneC i = true → nextZ i ⟨o, [0, r1, r2, r3, 0, 0, 0, 0], false⟩ v = (y', v', e) → (stepZ m t).2.al = effA (m.k + 1) t m.al e := fun hi ho hn =>
    (h.sys.go hc hk (by rw [hgt]; exact hi) ho (by rw [hgt]; exact hn)).2.2.1
  rcases hcase with ⟨h1, _⟩ | ⟨_, ⟨b, hb, hok⟩ | ⟨rfl, rfl⟩⟩
  · cases h1
  · cases b with
    | false =>
      obtain ⟨ho9, ok2, ok3, ok4, ok6⟩ := hok
      rcases (show o = 0 ∨ o = 1 ∨ o = 2 ∨ o = 3 ∨ o = 4 ∨ o = 5 ∨ o = 6 ∨ o = 7 ∨ o = 8 by omega) with rfl | rfl | rfl | rfl | rfl | rfl | rfl | rfl | rfl
      · skip
        have hi : insG ((ls t).map semB) ⟨j, ⟨0, [0, r1, r2, r3, 0, 0, 0, 0], false⟩⟩ = some ⟨6, 1, 0, 0, 0⟩ := ins_at hb _
        have hn : nextZ ⟨6, 1, 0, 0, 0⟩ ⟨0, [0, r1, r2, r3, 0, 0, 0, 0], false⟩ v = (⟨1, [0, v, r2, r3, 0, 0, 0, 0], false⟩, v, .act 6 v v) := rfl
        have ea := hal hi (by decide) hn
        refine ⟨_, v, sem_plain h hc hk hgt hi (by decide) (d := 0) (g' := ⟨j, ⟨1, [0, v, r2, r3, 0, 0, 0, 0], false⟩⟩) hn (norm_in hb (show 1 < 9 from by decide)) (fun _ => rfl) ⟨_, _, _, rfl, .inr ⟨rfl, .inl ⟨_, hb, (by simp [semOk] <;> omega)⟩⟩⟩ (by omega) (.inl ⟨rfl, rfl⟩) ?_ ?_ (left_same hv0 hfo (show (6 : Int) ≠ 8 from by decide) (.inl (show (6 : Int) ≠ 9 from by decide))) (by rfl) ?_, fun hO => ?_⟩
        · rw [gv_at hb, gv_at hb, tk_at hb, tk_at hb]; simp [gvN, tkN, rgZ] <;> omega
        · rw [pd_at hb, pd_at hb]; simp [pdN, rgZ] <;> omega
        · rw [pot_at hb, pot_at hb]; simp [potN, rgZ] <;> (repeat' split) <;> omega
        · rw [ea]; exact one_same hgt (by rw [hd_at hb, hd_at hb]; rfl) (.inr ⟨_, show (6 : Int) ≠ 8 from by decide, .inl (show (6 : Int) ≠ 9 from by decide), rfl⟩) hO
      · by_cases h1 : r1 = 0
        · skip
          have hi : insG ((ls t).map semB) ⟨j, ⟨1, [0, r1, r2, r3, 0, 0, 0, 0], false⟩⟩ = some ⟨11, 1, 0, 6, 0⟩ := ins_at hb _
          have hn : nextZ ⟨11, 1, 0, 6, 0⟩ ⟨1, [0, r1, r2, r3, 0, 0, 0, 0], false⟩ v = (⟨6, [0, r1, r2, r3, 0, 0, 0, 0], false⟩, v, .no) := by show ((if r1 = u64m 0 then _ else _ : ThZ), v, Eff.no) = _; rw [if_pos (by rw [h1]; rfl)]; rfl
          have ea := hal hi (by decide) hn
          refine ⟨_, v, sem_plain h hc hk hgt hi (by decide) (d := 0) (g' := ⟨j, ⟨6, [0, r1, r2, r3, 0, 0, 0, 0], false⟩⟩) hn (norm_in hb (show 6 < 9 from by decide)) (fun _ => rfl) ⟨_, _, _, rfl, .inr ⟨rfl, .inl ⟨_, hb, (by simp [semOk] <;> omega)⟩⟩⟩ (by omega) (.inl ⟨rfl, rfl⟩) ?_ ?_ hfo (by rfl) ?_, fun hO => ?_⟩
          · rw [gv_at hb, gv_at hb, tk_at hb, tk_at hb]; simp [gvN, tkN, rgZ] <;> omega
          · rw [pd_at hb, pd_at hb]; simp [pdN, rgZ] <;> omega
          · rw [pot_at hb, pot_at hb]; simp [potN, rgZ] <;> (repeat' split) <;> omega
          · rw [ea]; exact one_same hgt (by rw [hd_at hb, hd_at hb]; rfl) (.inl rfl) hO
        · skip
          have hi : insG ((ls t).map semB) ⟨j, ⟨1, [0, r1, r2, r3, 0, 0, 0, 0], false⟩⟩ = some ⟨11, 1, 0, 6, 0⟩ := ins_at hb _
          have hn : nextZ ⟨11, 1, 0, 6, 0⟩ ⟨1, [0, r1, r2, r3, 0, 0, 0, 0], false⟩ v = (⟨2, [0, r1, r2, r3, 0, 0, 0, 0], false⟩, v, .no) := by show ((if r1 = u64m 0 then _ else _ : ThZ), v, Eff.no) = _; rw [if_neg (fun e => h1 (e.trans rfl))]
          have ea := hal hi (by decide) hn
          refine ⟨_, v, sem_plain h hc hk hgt hi (by decide) (d := 0) (g' := ⟨j, ⟨2, [0, r1, r2, r3, 0, 0, 0, 0], false⟩⟩) hn (norm_in hb (show 2 < 9 from by decide)) (fun _ => rfl) ⟨_, _, _, rfl, .inr ⟨rfl, .inl ⟨_, hb, (by simp [semOk] <;> omega)⟩⟩⟩ (by omega) (.inl ⟨rfl, rfl⟩) ?_ ?_ hfo (by rfl) ?_, fun hO => ?_⟩
          · rw [gv_at hb, gv_at hb, tk_at hb, tk_at hb]; simp [gvN, tkN, rgZ] <;> omega
          · rw [pd_at hb, pd_at hb]; simp [pdN, rgZ] <;> omega
          · rw [pot_at hb, pot_at hb]; simp [potN, rgZ] <;> (repeat' split) <;> omega
          · rw [ea]; exact one_same hgt (by rw [hd_at hb, hd_at hb]; rfl) (.inl rfl) hO
      · have ok2 := ok2 rfl
        have hu : u64m (r1 + u64m (-1)) = r1 - 1 := by rw [u64m, show u64m (-1) = 18446744073709551615 by rfl, wrap_u64_mod]; omega
        have hi : insG ((ls t).map semB) ⟨j, ⟨2, [0, r1, r2, r3, 0, 0, 0, 0], false⟩⟩ = some ⟨3, 2, 1, -1, 0⟩ := ins_at hb _
        have hn : nextZ ⟨3, 2, 1, -1, 0⟩ ⟨2, [0, r1, r2, r3, 0, 0, 0, 0], false⟩ v = (⟨3, [0, r1, r1 - 1, r3, 0, 0, 0, 0], false⟩, v, .no) := by show ((⟨3, [0, r1, u64m (r1 + u64m (-1)), r3, 0, 0, 0, 0], false⟩ : ThZ), v, Eff.no) = _; rw [hu]
        have ea := hal hi (by decide) hn
        refine ⟨_, v, sem_plain h hc hk hgt hi (by decide) (d := 0) (g' := ⟨j, ⟨3, [0, r1, r1 - 1, r3, 0, 0, 0, 0], false⟩⟩) hn (norm_in hb (show 3 < 9 from by decide)) (fun _ => rfl) ⟨_, _, _, rfl, .inr ⟨rfl, .inl ⟨_, hb, (by simp [semOk] <;> omega)⟩⟩⟩ (by omega) (.inl ⟨rfl, rfl⟩) ?_ ?_ hfo (by rfl) ?_, fun hO => ?_⟩
        · rw [gv_at hb, gv_at hb, tk_at hb, tk_at hb]; simp [gvN, tkN, rgZ] <;> omega
        · rw [pd_at hb, pd_at hb]; simp [pdN, rgZ] <;> omega
        · rw [pot_at hb, pot_at hb]; simp [potN, rgZ] <;> (repeat' split) <;> omega
        · rw [ea]; exact one_same hgt (by rw [hd_at hb, hd_at hb]; rfl) (.inl rfl) hO
      · obtain ⟨ok3, rfl⟩ := ok3 rfl
        by_cases h1 : v = r1
        · skip
          have hi : insG ((ls t).map semB) ⟨j, ⟨3, [0, r1, r1 - 1, r3, 0, 0, 0, 0], false⟩⟩ = some ⟨9, 3, 0, 1, 2⟩ := ins_at hb _
          have hn : nextZ ⟨9, 3, 0, 1, 2⟩ ⟨3, [0, r1, r1 - 1, r3, 0, 0, 0, 0], false⟩ v = (⟨4, [0, r1, r1 - 1, 1, 0, 0, 0, 0], false⟩, (r1 - 1), .act 9 v (r1 - 1)) := by show (if v = r1 then _ else _) = _; rw [if_pos h1]; rfl
          have ea := hal hi (by decide) hn
          refine ⟨_, (r1 - 1), sem_plain h hc hk hgt hi (by decide) (d := 5) (g' := ⟨j, ⟨4, [0, r1, r1 - 1, 1, 0, 0, 0, 0], false⟩⟩) hn (norm_in hb (show 4 < 9 from by decide)) (fun _ => rfl) ⟨_, _, _, rfl, .inr ⟨rfl, .inl ⟨_, hb, (by simp [semOk] <;> omega)⟩⟩⟩ (by omega) (.inr rfl) ?_ ?_ (left_take (by omega) hfo (by omega)) (by rfl) ?_, fun hO => ?_⟩
          · rw [gv_at hb, gv_at hb, tk_at hb, tk_at hb]; simp [gvN, tkN, rgZ] <;> omega
          · rw [pd_at hb, pd_at hb]; simp [pdN, rgZ] <;> omega
          · rw [pot_at hb, pot_at hb]; simp [potN, rgZ] <;> (repeat' split) <;> omega
          · rw [ea]; exact one_take ht (by omega) (by rw [hd_at hb]; rfl) (by omega) hO
        · skip
          have hi : insG ((ls t).map semB) ⟨j, ⟨3, [0, r1, r1 - 1, r3, 0, 0, 0, 0], false⟩⟩ = some ⟨9, 3, 0, 1, 2⟩ := ins_at hb _
          have hn : nextZ ⟨9, 3, 0, 1, 2⟩ ⟨3, [0, r1, r1 - 1, r3, 0, 0, 0, 0], false⟩ v = (⟨4, [0, r1, r1 - 1, 0, 0, 0, 0, 0], false⟩, v, .act 9 v v) := by show (if v = r1 then _ else _) = _; rw [if_neg h1]; rfl
          have ea := hal hi (by decide) hn
          refine ⟨_, v, sem_plain h hc hk hgt hi (by decide) (d := 0) (g' := ⟨j, ⟨4, [0, r1, r1 - 1, 0, 0, 0, 0, 0], false⟩⟩) hn (norm_in hb (show 4 < 9 from by decide)) (fun _ => rfl) ⟨_, _, _, rfl, .inr ⟨rfl, .inl ⟨_, hb, (by simp [semOk] <;> omega)⟩⟩⟩ (by omega) (.inl ⟨rfl, rfl⟩) ?_ ?_ (left_same hv0 hfo (show (9 : Int) ≠ 8 from by decide) (.inr rfl)) (by rfl) ?_, fun hO => ?_⟩
          · rw [gv_at hb, gv_at hb, tk_at hb, tk_at hb]; simp [gvN, tkN, rgZ] <;> omega
          · rw [pd_at hb, pd_at hb]; simp [pdN, rgZ] <;> omega
          · rw [pot_at hb, pot_at hb]; simp [potN, rgZ] <;> (repeat' split) <;> omega
          · rw [ea]; exact one_same hgt (by rw [hd_at hb, hd_at hb]; rfl) (.inr ⟨_, show (9 : Int) ≠ 8 from by decide, .inr rfl, rfl⟩) hO
      · rcases ok4 rfl with rfl | rfl
        · skip
          have hi : insG ((ls t).map semB) ⟨j, ⟨4, [0, r1, r2, 0, 0, 0, 0, 0], false⟩⟩ = some ⟨11, 3, 0, 0, 0⟩ := ins_at hb _
          have hn : nextZ ⟨11, 3, 0, 0, 0⟩ ⟨4, [0, r1, r2, 0, 0, 0, 0, 0], false⟩ v = (⟨0, [0, r1, r2, 0, 0, 0, 0, 0], false⟩, v, .no) := rfl
          have ea := hal hi (by decide) hn
          refine ⟨_, v, sem_plain h hc hk hgt hi (by decide) (d := 0) (g' := ⟨j, ⟨0, [0, r1, r2, 0, 0, 0, 0, 0], false⟩⟩) hn (norm_in hb (show 0 < 9 from by decide)) (fun _ => rfl) ⟨_, _, _, rfl, .inr ⟨rfl, .inl ⟨_, hb, (by simp [semOk] <;> omega)⟩⟩⟩ (by omega) (.inl ⟨rfl, rfl⟩) ?_ ?_ hfo (by rfl) ?_, fun hO => ?_⟩
          · rw [gv_at hb, gv_at hb, tk_at hb, tk_at hb]; simp [gvN, tkN, rgZ] <;> omega
          · rw [pd_at hb, pd_at hb]; simp [pdN, rgZ] <;> omega
          · rw [pot_at hb, pot_at hb]; simp [potN, rgZ] <;> (repeat' split) <;> omega
          · rw [ea]; exact one_same hgt (by rw [hd_at hb, hd_at hb]; rfl) (.inl rfl) hO
        · skip
          have hi : insG ((ls t).map semB) ⟨j, ⟨4, [0, r1, r2, 1, 0, 0, 0, 0], false⟩⟩ = some ⟨11, 3, 0, 0, 0⟩ := ins_at hb _
          have hn : nextZ ⟨11, 3, 0, 0, 0⟩ ⟨4, [0, r1, r2, 1, 0, 0, 0, 0], false⟩ v = (⟨5, [0, r1, r2, 1, 0, 0, 0, 0], false⟩, v, .no) := rfl
          have ea := hal hi (by decide) hn
          refine ⟨_, v, sem_plain h hc hk hgt hi (by decide) (d := 0) (g' := ⟨j, ⟨5, [0, r1, r2, 1, 0, 0, 0, 0], false⟩⟩) hn (norm_in hb (show 5 < 9 from by decide)) (fun _ => rfl) ⟨_, _, _, rfl, .inr ⟨rfl, .inl ⟨_, hb, (by simp [semOk] <;> omega)⟩⟩⟩ (by omega) (.inl ⟨rfl, rfl⟩) ?_ ?_ hfo (by rfl) ?_, fun hO => ?_⟩
          · rw [gv_at hb, gv_at hb, tk_at hb, tk_at hb]; simp [gvN, tkN, rgZ] <;> omega
          · rw [pd_at hb, pd_at hb]; simp [pdN, rgZ] <;> omega
          · rw [pot_at hb, pot_at hb]; simp [potN, rgZ] <;> (repeat' split) <;> omega
          · rw [ea]; exact one_same hgt (by rw [hd_at hb, hd_at hb]; rfl) (.inl rfl) hO
      · skip
        have hi : insG ((ls t).map semB) ⟨j, ⟨5, [0, r1, r2, r3, 0, 0, 0, 0], false⟩⟩ = some ⟨10, 8, 0, 0, 0⟩ := ins_at hb _
        have hn : nextZ ⟨10, 8, 0, 0, 0⟩ ⟨5, [0, r1, r2, r3, 0, 0, 0, 0], false⟩ v = (⟨8, [0, r1, r2, r3, 0, 0, 0, 0], false⟩, v, .no) := rfl
        have ea := hal hi (by decide) hn
        refine ⟨_, v, sem_plain h hc hk hgt hi (by decide) (d := 0) (g' := ⟨j, ⟨8, [0, r1, r2, r3, 0, 0, 0, 0], false⟩⟩) hn (norm_in hb (show 8 < 9 from by decide)) (fun _ => rfl) ⟨_, _, _, rfl, .inr ⟨rfl, .inl ⟨_, hb, (by simp [semOk] <;> omega)⟩⟩⟩ (by omega) (.inl ⟨rfl, rfl⟩) ?_ ?_ hfo (by rfl) ?_, fun hO => ?_⟩
        · rw [gv_at hb, gv_at hb, tk_at hb, tk_at hb]; simp [gvN, tkN, rgZ] <;> omega
        · rw [pd_at hb, pd_at hb]; simp [pdN, rgZ] <;> omega
        · rw [pot_at hb, pot_at hb]; simp [potN] <;> (repeat' split) <;> omega
        · rw [ea]; exact one_same hgt (by rw [hd_at hb, hd_at hb]; rfl) (.inl rfl) hO
      · have ok6 := ok6 rfl
        by_cases h1 : v = r1
        · have hi : insG ((ls t).map semB) ⟨j, ⟨6, [0, r1, r2, r3, 0, 0, 0, 0], false⟩⟩ = some ⟨14, 0, 1, 0, 0⟩ := ins_at hb _
          have hn : nextZ ⟨14, 0, 1, 0, 0⟩ ⟨6, [0, r1, r2, r3, 0, 0, 0, 0], false⟩ v = (⟨7, [0, r1, r2, r3, 0, 0, 0, 0], false⟩, v, .sleep) := by show (_, v, (if v = r1 then Eff.sleep else Eff.no)) = _; rw [if_pos h1]
          have ea := hal hi (by decide) hn
          refine ⟨_, v, sem_upd h hc hk hgt hi (by decide) (d := 0) (g' := ⟨j, ⟨7, [0, r1, r2, r3, 0, 0, 0, 0], false⟩⟩) hn (norm_in hb (show 7 < 9 from by decide)) ⟨_, _, _, rfl, .inr ⟨rfl, .inl ⟨_, hb, (by simp [semOk] <;> omega)⟩⟩⟩ (by omega) (.inl ⟨rfl, rfl⟩) ?_ (fun s hs => ?_) (fun _ => by omega) hfo rfl ?_, fun hO => ?_⟩
          · rw [gv_at hb, gv_at hb, tk_at hb, tk_at hb]; rfl
          · rcases List.mem_append.1 hs with hs | hs
            · exact .inl hs
            · exact .inr ⟨List.mem_singleton.1 hs, hb, rfl, rfl⟩
          · rw [pot_at hb, pot_at hb, effS, List.length_append]; simp [potN, rgZ, h1]; omega
          · rw [ea]; exact one_same hgt (by rw [hd_at hb, hd_at hb]; rfl) (.inl rfl) hO
        · skip
          have hi : insG ((ls t).map semB) ⟨j, ⟨6, [0, r1, r2, r3, 0, 0, 0, 0], false⟩⟩ = some ⟨14, 0, 1, 0, 0⟩ := ins_at hb _
          have hn : nextZ ⟨14, 0, 1, 0, 0⟩ ⟨6, [0, r1, r2, r3, 0, 0, 0, 0], false⟩ v = (⟨7, [0, r1, r2, r3, 0, 0, 0, 0], false⟩, v, .no) := by show (_, v, (if v = r1 then Eff.sleep else Eff.no)) = _; rw [if_neg h1]
          have ea := hal hi (by decide) hn
          refine ⟨_, v, sem_plain h hc hk hgt hi (by decide) (d := 0) (g' := ⟨j, ⟨7, [0, r1, r2, r3, 0, 0, 0, 0], false⟩⟩) hn (norm_in hb (show 7 < 9 from by decide)) (fun _ => rfl) ⟨_, _, _, rfl, .inr ⟨rfl, .inl ⟨_, hb, (by simp [semOk] <;> omega)⟩⟩⟩ (by omega) (.inl ⟨rfl, rfl⟩) ?_ ?_ hfo (by rfl) ?_, fun hO => ?_⟩
          · rw [gv_at hb, gv_at hb, tk_at hb, tk_at hb]; simp [gvN, tkN, rgZ] <;> omega
          · rw [pd_at hb, pd_at hb]; simp [pdN, rgZ] <;> omega
          · rw [pot_at hb, pot_at hb]; simp [potN, rgZ] <;> (repeat' split) <;> omega
          · rw [ea]; exact one_same hgt (by rw [hd_at hb, hd_at hb]; rfl) (.inl rfl) hO
      · skip
        have hi : insG ((ls t).map semB) ⟨j, ⟨7, [0, r1, r2, r3, 0, 0, 0, 0], false⟩⟩ = some ⟨10, 0, 0, 0, 0⟩ := ins_at hb _
        have hn : nextZ ⟨10, 0, 0, 0, 0⟩ ⟨7, [0, r1, r2, r3, 0, 0, 0, 0], false⟩ v = (⟨0, [0, r1, r2, r3, 0, 0, 0, 0], false⟩, v, .no) := rfl
        have ea := hal hi (by decide) hn
        refine ⟨_, v, sem_plain h hc hk hgt hi (by decide) (d := 0) (g' := ⟨j, ⟨0, [0, r1, r2, r3, 0, 0, 0, 0], false⟩⟩) hn (norm_in hb (show 0 < 9 from by decide)) (fun _ => rfl) ⟨_, _, _, rfl, .inr ⟨rfl, .inl ⟨_, hb, (by simp [semOk] <;> omega)⟩⟩⟩ (by omega) (.inl ⟨rfl, rfl⟩) ?_ ?_ hfo (by rfl) ?_, fun hO => ?_⟩
        · rw [gv_at hb, gv_at hb, tk_at hb, tk_at hb]; simp [gvN, tkN, rgZ] <;> omega
        · rw [pd_at hb, pd_at hb]; simp [pdN, rgZ] <;> omega
        · rw [pot_at hb, pot_at hb]; simp [potN] <;> (repeat' split) <;> omega
        · rw [ea]; exact one_same hgt (by rw [hd_at hb, hd_at hb]; rfl) (.inl rfl) hO
      · skip
        have hi : insG ((ls t).map semB) ⟨j, ⟨8, [0, r1, r2, r3, 0, 0, 0, 0], false⟩⟩ = some ⟨16, 3, 2, 0, 0⟩ := ins_at hb _
        have hn : nextZ ⟨16, 3, 2, 0, 0⟩ ⟨8, [0, r1, r2, r3, 0, 0, 0, 0], false⟩ v = (⟨9, [0, r1, r2, r3, 0, 0, 0, 0], false⟩, v, .say 3 (IntKind.i64.wrap r2)) := rfl
        have ea := hal hi (by decide) hn
        have po := pot_out v (l := ls t) j [0, r1, r2, r3, 0, 0, 0, 0]
        have hjl := (List.getElem?_eq_some_iff.1 hb).1
        refine ⟨_, v, sem_plain h hc hk hgt hi (by decide) (d := 0) (g' := ⟨j + 1, ⟨0, [0, r1, r2, r3, 0, 0, 0, 0], false⟩⟩) hn (norm_out hb rfl) (fun _ => rfl) (next_G hb _ _ _) (by omega) (.inl ⟨rfl, rfl⟩) (by rw [gv_out, tk_out, gv_at hb, tk_at hb]; rfl) (by rw [pd_at hb]; show v + ((0 : Nat) : Int) ≤ _; omega) hfo (by rw [effE, List.length_append]; show _ + 1 + ((ls t).length - (j + 1)) = _ + ((ls t).length - j); omega) (by rw [pot_at hb]; show _ ≤ _ + 1 + 1; omega), fun hO => ?_⟩
        rw [ea]
        exact one_same hgt (by rw [hd_at hb]; show hdN (ls t)[j + 1]? 0 _ = _; rw [(hO.1 t ht j).1 hb]; rfl) (.inl rfl) hO
    | true =>
      rcases (show o = 0 ∨ o = 1 ∨ o = 2 ∨ o = 3 by have : o < 4 := hok; omega) with rfl | rfl | rfl | rfl
      · have hu : u64m (v + u64m 1) = v + 1 := by rw [u64m, show u64m 1 = 1 by rfl, wrap_u64_mod]; omega
        have hi : insG ((ls t).map semB) ⟨j, ⟨0, [0, r1, r2, r3, 0, 0, 0, 0], false⟩⟩ = some ⟨8, 1, 0, 1, 0⟩ := ins_at hb _
        have hn : nextZ ⟨8, 1, 0, 1, 0⟩ ⟨0, [0, r1, r2, r3, 0, 0, 0, 0], false⟩ v = (⟨1, [0, v, r2, r3, 0, 0, 0, 0], false⟩, (v + 1), .act 8 v (v + 1)) := by show ((⟨1, [0, v, r2, r3, 0, 0, 0, 0], false⟩ : ThZ), u64m (v + u64m 1), Eff.act 8 v (u64m (v + u64m 1))) = _; rw [hu]
        have ea := hal hi (by decide) hn
        refine ⟨_, (v + 1), sem_plain h hc hk hgt hi (by decide) (d := 5) (g' := ⟨j, ⟨1, [0, v, r2, r3, 0, 0, 0, 0], false⟩⟩) hn (norm_in hb (show 1 < 4 from by decide)) (fun _ => rfl) ⟨_, _, _, rfl, .inr ⟨rfl, .inl ⟨_, hb, (by simp [semOk] <;> omega)⟩⟩⟩ (by omega) (.inr rfl) ?_ ?_ (left_give hv0 hfo) (by rfl) ?_, fun hO => ?_⟩
        · rw [gv_at hb, gv_at hb, tk_at hb, tk_at hb]; simp [gvN, tkN] <;> omega
        · rw [pd_at hb, pd_at hb]; simp [pdN] <;> omega
        · rw [pot_at hb, pot_at hb]; simp [potN] <;> (repeat' split) <;> omega
        · rw [ea]; exact one_give ht hgt (by rw [hd_at hb]; rfl) (by rw [hd_at hb]; rfl) hO
      · skip
        have hi : insG ((ls t).map semB) ⟨j, ⟨1, [0, r1, r2, r3, 0, 0, 0, 0], false⟩⟩ = some ⟨3, 2, 1, 1, 0⟩ := ins_at hb _
        have hn : nextZ ⟨3, 2, 1, 1, 0⟩ ⟨1, [0, r1, r2, r3, 0, 0, 0, 0], false⟩ v = (⟨2, [0, r1, u64m (r1 + u64m 1), r3, 0, 0, 0, 0], false⟩, v, .no) := rfl
        have ea := hal hi (by decide) hn
        refine ⟨_, v, sem_plain h hc hk hgt hi (by decide) (d := 0) (g' := ⟨j, ⟨2, [0, r1, u64m (r1 + u64m 1), r3, 0, 0, 0, 0], false⟩⟩) hn (norm_in hb (show 2 < 4 from by decide)) (fun _ => rfl) ⟨_, _, _, rfl, .inr ⟨rfl, .inl ⟨_, hb, (by simp [semOk] <;> omega)⟩⟩⟩ (by omega) (.inl ⟨rfl, rfl⟩) ?_ ?_ hfo (by rfl) ?_, fun hO => ?_⟩
        · rw [gv_at hb, gv_at hb, tk_at hb, tk_at hb]; simp [gvN, tkN] <;> omega
        · rw [pd_at hb, pd_at hb]; simp [pdN] <;> omega
        · rw [pot_at hb, pot_at hb]; simp [potN] <;> (repeat' split) <;> omega
        · rw [ea]; exact one_same hgt (by rw [hd_at hb, hd_at hb]; rfl) (.inl rfl) hO
      · have hi : insG ((ls t).map semB) ⟨j, ⟨2, [0, r1, r2, r3, 0, 0, 0, 0], false⟩⟩ = some ⟨15, 0, 1, -1, 0⟩ := ins_at hb _
        have hn : nextZ ⟨15, 0, 1, -1, 0⟩ ⟨2, [0, r1, r2, r3, 0, 0, 0, 0], false⟩ v = (⟨3, [0, r1, r2, r3, 0, 0, 0, 0], false⟩, v, .wake 1) := rfl
        have ea := hal hi (by decide) hn
        have hwk : effS t m.ss (.wake 1) = m.ss.tail := semWake1 fun s hs => (h.sl s hs).1
        refine ⟨_, v, sem_upd h hc hk hgt hi (by decide) (d := 0) (g' := ⟨j, ⟨3, [0, r1, r2, r3, 0, 0, 0, 0], false⟩⟩) hn (norm_in hb (show 3 < 4 from by decide)) ⟨_, _, _, rfl, .inr ⟨rfl, .inl ⟨_, hb, (by simp [semOk] <;> omega)⟩⟩⟩ (by omega) (.inl ⟨rfl, rfl⟩) ?_ (fun s hs => ?_) (fun hne => ?_) hfo rfl ?_, fun hO => ?_⟩
        · rw [gv_at hb, gv_at hb, tk_at hb, tk_at hb]; rfl
        · rw [hwk] at hs; exact .inl (List.mem_of_mem_tail hs)
        · rw [hwk] at hne ⊢
          have hjn := h.jn
          have hsl := h.sl
          have hnd := h.sys.wf.ss
          have hln := h.sys.ln
          cases hss : m.ss with
          | nil => rw [hss] at hne; exact absurd rfl hne
          | cons x xs =>
            rw [hss] at hjn hsl hnd hno
            have h1 := hjn (by simp)
            obtain ⟨_, x1, x2, x3⟩ := hsl x (by simp)
            obtain ⟨x4, x5, _⟩ := hnd.2 x (by simp)
            have hx0 : (x.t.toNat : Int) = x.t := by omega
            have hxt : x.t.toNat ≠ t := fun e => hno x (by simp) (by omega)
            have h2 := rsum_two (n := n) (t := t) (s0 := x.t.toNat) (f1 := fun s => if slp (x :: xs) s = true then 0 else pdG (ls s) (gs s)) (f2 := fun s => if slp xs s = true then 0 else pdG (ls s) (updG gs t ⟨j, ⟨3, [0, r1, r2, r3, 0, 0, 0, 0], false⟩⟩ s)) ht (by omega) hxt (fun s hs h3 h4 => ?_)
            · try dsimp only at h2
              have n1 : slp (x :: xs) x.t.toNat = true := by rw [slp, List.any_cons, hx0]; simp
              have n2 : slp xs x.t.toNat = false := slp_no fun s hs => by
                have := hnd.1
                rw [List.map_cons, List.nodup_cons] at this
                exact fun e => this.1 (List.mem_map.2 ⟨s, hs, e.trans hx0⟩)
              have n3 : slp (x :: xs) t = false := slp_no hno
              have n4 : slp xs t = false := slp_no fun s hs => hno s (by simp [hs])
              rw [n1, n2, n3, n4, updG_same, updG_ne _ _ hxt, hgt, pd_at hb, pd_at hb] at h2
              have n5 : pdG (ls x.t.toNat) (gs x.t.toNat) = 1 := by rw [pdG, x1, x2]; rfl
              rw [n5] at h2
              have n6 : pdN (some true) 3 (rgZ [0, r1, r2, r3, 0, 0, 0, 0] 3) = 0 := rfl
              have n7 : pdN (some true) 2 (rgZ [0, r1, r2, r3, 0, 0, 0, 0] 3) = 1 := rfl
              simp only [if_true, Bool.false_eq_true, if_false, n6, n7] at h2
              show v ≤ ((rsum n fun s => if slp xs s = true then 0 else pdG (ls s) (updG gs t ⟨j, ⟨3, [0, r1, r2, r3, 0, 0, 0, 0], false⟩⟩ s) : Nat) : Int)
              omega
            · rw [updG_ne _ _ h3, slp, List.any_cons, show (x.t == (s : Int)) = false from beq_eq_false_iff_ne.2 (by omega), Bool.false_or]
              exact Nat.le_refl _
        · rw [pot_at hb, pot_at hb, hwk, List.length_tail]; simp [potN]; omega
        · rw [ea]; exact one_same hgt (by rw [hd_at hb, hd_at hb]; rfl) (.inl rfl) hO
      · skip
        have hi : insG ((ls t).map semB) ⟨j, ⟨3, [0, r1, r2, r3, 0, 0, 0, 0], false⟩⟩ = some ⟨16, 3, 2, 0, 0⟩ := ins_at hb _
        have hn : nextZ ⟨16, 3, 2, 0, 0⟩ ⟨3, [0, r1, r2, r3, 0, 0, 0, 0], false⟩ v = (⟨4, [0, r1, r2, r3, 0, 0, 0, 0], false⟩, v, .say 3 (IntKind.i64.wrap r2)) := rfl
        have ea := hal hi (by decide) hn
        have po := pot_out v (l := ls t) j [0, r1, r2, r3, 0, 0, 0, 0]
        have hjl := (List.getElem?_eq_some_iff.1 hb).1
        refine ⟨_, v, sem_plain h hc hk hgt hi (by decide) (d := 0) (g' := ⟨j + 1, ⟨0, [0, r1, r2, r3, 0, 0, 0, 0], false⟩⟩) hn (norm_out hb rfl) (fun _ => rfl) (next_G hb _ _ _) (by omega) (.inl ⟨rfl, rfl⟩) (by rw [gv_out, tk_out, gv_at hb, tk_at hb]; rfl) (by rw [pd_at hb]; show v + ((0 : Nat) : Int) ≤ _; omega) hfo (by rw [effE, List.length_append]; show _ + 1 + ((ls t).length - (j + 1)) = _ + ((ls t).length - j); omega) (by rw [pot_at hb]; show _ ≤ _ + 1 + 1; omega), fun hO => ?_⟩
        rw [ea]
        exact one_same hgt (by rw [hd_at hb]; show hdN (ls t)[j + 1]? 0 _ = _; have := (hO.1 t ht j).2 hb; cases h2 : (ls t)[j + 1]? with | none => rfl | some c => cases c with | false => rfl | true => exact absurd h2 this) (.inl rfl) hO
  · have hb : (ls t)[(ls t).length]? = none := List.getElem?_eq_none_iff.2 (Nat.le_refl _)
    have hi : insG ((ls t).map semB) ⟨(ls t).length, ⟨0, [0, r1, r2, r3, 0, 0, 0, 0], false⟩⟩ = some ⟨0, 0, 0, 0, 0⟩ := by
      rw [insG]
      simp
    have hn : nextZ ⟨0, 0, 0, 0, 0⟩ ⟨0, [0, r1, r2, r3, 0, 0, 0, 0], false⟩ v = (⟨1, [0, r1, r2, r3, 0, 0, 0, 0], true⟩, v, .no) := rfl
    have ea := hal hi (by decide) hn
    refine ⟨_, v, sem_plain h hc hk hgt hi (by decide) (d := 0) (g' := ⟨(ls t).length, ⟨1, [0, r1, r2, r3, 0, 0, 0, 0], true⟩⟩) hn (by rw [normG]; simp) (fun _ => rfl) ⟨_, _, _, rfl, .inl ⟨rfl, rfl⟩⟩ (by omega) (.inl ⟨rfl, rfl⟩) ?_ ?_ hfo rfl ?_, fun hO => ?_⟩
    · simp only [gvG, tkG, hb]; rfl
    · simp only [pdG, hb]; exact Int.le_refl _
    · simp only [potG, hb]; simp [potN]
    · rw [ea]; exact one_same hgt (by simp only [hdG, hb]; rfl) (.inl rfl) hO

end
end Go.Mac
end

/- Threads that take, and give: behind any moves, and in the end. -/
section
open Go Go.Proofs Go.Mac
set_option maxRecDepth 100000
namespace Go.Mac

section
variable {B E n : Nat} {R first : Int} {ls : Nat → List Bool}

def SemI (B E n : Nat) (R first : Int) (ls : Nat → List Bool) (m : MZ) : Prop := ∃ gs v, SemJ B E n R first ls gs v m
def SemO (B E n : Nat) (R first : Int) (ls : Nat → List Bool) (m : MZ) : Prop := ∃ gs v, SemJ B E n R first ls gs v m ∧ OneJ n ls gs v m.al

theorem SemJ.mono {B B' : Nat} {gs : Nat → GZ} {v : Int} {m : MZ} (h : SemJ B E n R first ls gs v m) (hb : B ≤ B') : SemJ B' E n R first ls gs v m :=
  ⟨h.sys, h.hn, h.th, h.v0, h.hv, h.sl, h.jn, h.fo, h.el, Nat.le_trans h.pot hb⟩

theorem SemI.step {m : MZ} (h : SemI B E n R first ls m) (t : Int) : SemI B E n R first ls (stepZ m t).2 := by
  obtain ⟨gs, v, h⟩ := h
  rcases step_or h.sys.wf t with e | ⟨s, rfl, hc, hk⟩
  · rw [e]; exact ⟨gs, v, h⟩
  · obtain ⟨gs', v', h', _⟩ := sem_step h hc hk
    exact ⟨gs', v', h'⟩

theorem SemO.step {m : MZ} (h : SemO B E n R first ls m) (t : Int) : SemO B E n R first ls (stepZ m t).2 := by
  obtain ⟨gs, v, h, ho⟩ := h
  rcases step_or h.sys.wf t with e | ⟨s, rfl, hc, hk⟩
  · rw [e]; exact ⟨gs, v, h, ho⟩
  · obtain ⟨gs', v', h', ho'⟩ := sem_step h hc hk
    exact ⟨gs', v', h', ho' ho⟩

theorem filter_lenS {ss : List Slp} {t : Int} (h : (ss.map (·.t)).Nodup) : ss.length ≤ (ss.filter fun s => s.t != t).length + 1 := by
  induction ss with
  | nil => simp
  | cons x xs ih =>
    rw [List.map_cons, List.nodup_cons] at h
    by_cases hx : x.t = t
    · have hno : noT xs t := fun s hs e => h.1 (List.mem_map.2 ⟨s, hs, e.trans hx.symm⟩)
      rw [List.filter_cons_of_neg (by simp [hx]), filter_noT hno, List.length_cons]
      omega
    · rw [List.filter_cons_of_pos (by simp [hx]), List.length_cons, List.length_cons]
      have := ih h.2
      omega

theorem slp_filter {ss : List Slp} {t : Int} {s : Nat} (h : slp (ss.filter fun s => s.t != t) s = true) : slp ss s = true := by
  rw [slp, List.any_eq_true] at h ⊢
  obtain ⟨x, hx, e⟩ := h
  exact ⟨x, (List.mem_filter.1 hx).1, e⟩

theorem SemJ.poke {gs : Nat → GZ} {v : Int} {m : MZ} (h : SemJ B E n R first ls gs v m) (t : Int) : SemJ (B + 4) E n R first ls gs v (pokeZ m t) := by
  refine ⟨h.sys.poke t, h.hn, h.th, h.v0, h.hv, fun s hs => h.sl s (List.mem_filter.1 hs).1, fun hne => ?_, h.fo, h.el, ?_⟩
  · have hn' : m.ss ≠ [] := fun e => hne (by show m.ss.filter _ = []; rw [e]; rfl)
    have h1 := h.jn hn'
    have h2 := rsum_le (n := n) (g := fun s => if slp m.ss s = true then 0 else pdG (ls s) (gs s)) (h := fun s => if slp (m.ss.filter fun s => s.t != t) s = true then 0 else pdG (ls s) (gs s)) fun s _ => by
      try dsimp only
      split
      · exact Nat.zero_le _
      · rename_i h3
        rw [if_neg (fun h4 => h3 (slp_filter h4))]
        exact Nat.le_refl _
    show v ≤ ((rsum n fun s => if slp (m.ss.filter fun s => s.t != t) s = true then 0 else pdG (ls s) (gs s) : Nat) : Int)
    omega
  · have h1 := h.pot
    have h2 := filter_lenS (t := t) h.sys.wf.ss.1
    show m.k + (rsum n (fun t => potG v (ls t) (gs t)) + 4 * (n - (m.ss.filter fun s => s.t != t).length)) ≤ B + 4
    omega

theorem semB_ok (b : Bool) : ∀ i ∈ semB b, okI 1 (((semB b).length : Int) + 1) i = true := by cases b <;> decide

theorem semB_len (b : Bool) : (semB b).length ≤ 9 := by cases b <;> decide

theorem sem_right {l : List Bool} (hl : l.length ≤ 12) : rightZ (catP (l.map semB)) 1 = true := by
  refine catP_right (by decide) (fun b hb => ?_) ?_
  · obtain ⟨c, _, rfl⟩ := List.mem_map.1 hb
    exact semB_ok c
  · have := offB_le (n := 9) (l.map semB) (fun b hb => by obtain ⟨c, _, rfl⟩ := List.mem_map.1 hb; exact semB_len c) (l.map semB).length
    rw [List.length_map] at this ⊢
    omega

/-- Of a list of threads' calls. -/
def lsF (ll : List (List Bool)) (t : Nat) : List Bool := ll.getD t []
def semM (ll : List (List Bool)) (f : Int) : MZ := mz0 (ll.map fun l => catP (l.map semB)) [f]

theorem lsF_mem {ll : List (List Bool)} {t : Nat} (ht : t < ll.length) : lsF ll t ∈ ll := by
  rw [lsF, List.getD_eq_getElem?_getD, List.getElem?_eq_getElem ht]
  exact List.getElem_mem ht

theorem lsF_get {ll : List (List Bool)} {t : Nat} (ht : t < ll.length) : ll[t]? = some (lsF ll t) := by
  rw [lsF, List.getD_eq_getElem?_getD, List.getElem?_eq_getElem ht]; rfl

theorem sem_init {ll : List (List Bool)} (hn : ll.length ≤ 9) (hl : ∀ l ∈ ll, l.length ≤ 12) {f : Nat} (hf : f ≤ 100) :
    SemJ 5769 (rsum ll.length fun t => (lsF ll t).length) ll.length (f + rsum ll.length (fun t => cnt true (lsF ll t) 0) - rsum ll.length (fun t => cnt false (lsF ll t) 0)) f (lsF ll) (fun _ => ⟨0, th0⟩) f (semM ll f) := by
  have hts : ∀ t, t < ll.length → (semM ll f).ts[t]? = some th0 := fun t ht => by
    show (List.replicate (ll.map _).length th0)[t]? = _
    rw [List.length_map, List.getElem?_replicate, if_pos ht]
  have e0 : ∀ l : List Bool, insG (l.map semB) ⟨0, th0⟩ = insG (l.map semB) ⟨0, th0⟩ := fun _ => rfl
  refine ⟨⟨mz0_wf (by simp; omega) (by simp) (fun p hp => ?_) (fun w hw => ?_), by simp [semM, mz0], fun t ht => ?_, rfl, fun t ht => ?_⟩, hn, fun t ht => ?_, ⟨by omega, by show (f : Int) ≤ 100 + 0; omega⟩, ?_, (fun s hs => by cases hs), fun h => absurd rfl h, rfl, ?_, ?_⟩
  · obtain ⟨l, hl', rfl⟩ := List.mem_map.1 hp
    exact sem_right (hl l hl')
  · obtain rfl := List.mem_singleton.1 hw
    omega
  · show (ll.map _)[t]? = _
    rw [List.getElem?_map, lsF_get ht]; rfl
  · rw [hts t ht]; rfl
  · refine ⟨0, 0, 0, rfl, .inr ⟨rfl, ?_⟩⟩
    cases h : (lsF ll t)[0]? with
    | none => exact .inr ⟨by have := List.getElem?_eq_none_iff.1 h; show 0 = _; omega, rfl⟩
    | some c =>
      refine .inl ⟨c, by first | exact h | rfl, ?_⟩
      cases c <;> simp only [semOk] <;> decide
  · have e1 : ∀ l : List Bool, gvG l ⟨0, th0⟩ = cnt true l 0 := fun l => gv_next l 0
    have e2 : ∀ l : List Bool, tkG l ⟨0, th0⟩ = cnt false l 0 := fun l => tk_next l 0 _
    simp only [e1, e2]
    omega
  · show 0 + _ = _
    rw [Nat.zero_add]
    rfl
  · have h1 : rsum ll.length (fun t => potG f (lsF ll t) ⟨0, th0⟩) ≤ ll.length * 637 := rsum_const _ _ _ fun t ht => by
      have h1 := pot_next f (lsF ll t) 0 (rgZ th0.rg 1) (rgZ th0.rg 3)
      have h2 := hl _ (lsF_mem ht)
      show 53 * ((lsF ll t).length - (0 + 1)) + potN f (lsF ll t)[0]? 0 (rgZ th0.rg 1) (rgZ th0.rg 3) + 1 ≤ 637
      omega
    have h2 : ll.length * 637 ≤ 9 * 637 := Nat.mul_le_mul_right _ hn
    show 0 + (_ + 4 * (ll.length - 0)) ≤ 5769
    omega

theorem one_init {ll : List (List Bool)} (ha : ∀ l ∈ ll, altL l) (hf : ∀ l ∈ ll, l[0]? ≠ some true) : OneJ ll.length (lsF ll) (fun _ => ⟨0, th0⟩) 1 (semM ll 1).al := by
  refine ⟨fun t ht => ha _ (lsF_mem ht), -1, rfl, fun t ht => ?_, .inl ⟨rfl, rfl⟩⟩
  have h1 := hf _ (lsF_mem ht)
  have : hdG (lsF ll t) ⟨0, th0⟩ = false := by
    rw [hdG]
    try dsimp only
    cases h : (lsF ll t)[0]? with
    | none => rfl
    | some c =>
      cases c
      · rfl
      · exact absurd h h1
  rw [this]
  constructor
  · intro h; cases h
  · intro h; omega

theorem sem_moves {ll : List (List Bool)} (hn : ll.length ≤ 9) (hl : ∀ l ∈ ll, l.length ≤ 12) {f : Nat} (hf : f ≤ 100) (ms : List MoveZ) :
    SemI (5769 + 4 * ms.length) (rsum ll.length fun t => (lsF ll t).length) ll.length (f + rsum ll.length (fun t => cnt true (lsF ll t) 0) - rsum ll.length (fun t => cnt false (lsF ll t) 0)) f (lsF ll) (movesZ (semM ll f) ms) := by
  have := moves_inv (P := fun i m => SemI (5769 + 4 * i) (rsum ll.length fun t => (lsF ll t).length) ll.length (f + rsum ll.length (fun t => cnt true (lsF ll t) 0) - rsum ll.length (fun t => cnt false (lsF ll t) 0)) f (lsF ll) m)
    (fun i m t h => by obtain ⟨gs, v, h⟩ := h.step t; exact ⟨gs, v, h.mono (by omega)⟩) (fun i m t h => by obtain ⟨gs, v, h⟩ := h; exact ⟨gs, v, (h.poke t).mono (by omega)⟩) ms 0 _ ⟨_, _, sem_init hn hl hf⟩
  rw [Nat.zero_add] at this
  exact this

theorem semO_moves {ll : List (List Bool)} (hn : ll.length ≤ 9) (hl : ∀ l ∈ ll, l.length ≤ 12) (ha : ∀ l ∈ ll, altL l) (h0 : ∀ l ∈ ll, l[0]? ≠ some true) (ms : List MoveZ) :
    SemO (5769 + 4 * ms.length) (rsum ll.length fun t => (lsF ll t).length) ll.length ((1 : Nat) + rsum ll.length (fun t => cnt true (lsF ll t) 0) - rsum ll.length (fun t => cnt false (lsF ll t) 0)) (1 : Nat) (lsF ll) (movesZ (semM ll 1) ms) := by
  have := moves_inv (P := fun i m => SemO (5769 + 4 * i) (rsum ll.length fun t => (lsF ll t).length) ll.length ((1 : Nat) + rsum ll.length (fun t => cnt true (lsF ll t) 0) - rsum ll.length (fun t => cnt false (lsF ll t) 0)) (1 : Nat) (lsF ll) m)
    (fun i m t h => by obtain ⟨gs, v, h, ho⟩ := h.step t; exact ⟨gs, v, h.mono (by omega), ho⟩) (fun i m t h => by obtain ⟨gs, v, h, ho⟩ := h; exact ⟨gs, v, (h.poke t).mono (by omega), ho⟩) ms 0 _ ⟨_, _, sem_init hn hl (f := 1) (by decide), one_init ha h0⟩
  rw [Nat.zero_add] at this
  exact this

/-- Whoever is neither asleep nor at its end can go on. -/
theorem sem_stop {gs : Nat → GZ} {v : Int} {z : MZ} (h : SemJ B E n R first ls gs v z) (hno : ∀ t, t < z.ts.length → canZ z (t : Int) = false) {t : Nat} (ht : t < n) : (gs t).y.dn = true ∨ slp z.ss t = true := by
  cases hs : slp z.ss t with
  | true => exact .inr rfl
  | false =>
    cases hd : (gs t).y.dn with
    | true => exact .inl rfl
    | false =>
      exfalso
      have := can_in (h.sys.ts t ht) (show (conc _ (gs t)).dn = false from hd) (fun s hs' e => by
        rw [slp, List.any_eq_false] at hs
        exact hs s hs' (by simpa using e))
      rw [hno t (by rw [h.sys.ln]; exact ht)] at this
      cases this

theorem sem_done {gs : Nat → GZ} {v : Int} {z : MZ} (h : SemJ B E n R first ls gs v z) {t : Nat} (ht : t < n) (hd : (gs t).y.dn = true) : gvG (ls t) (gs t) = 0 ∧ tkG (ls t) (gs t) = 0 ∧ pdG (ls t) (gs t) = 0 ∧ saG (ls t) (gs t) = 0 := by
  obtain ⟨r1, r2, r3, _, h1 | ⟨h1, _⟩⟩ := h.th t ht
  · have hb : (ls t)[(ls t).length]? = none := List.getElem?_eq_none_iff.2 (Nat.le_refl _)
    rw [gvG, tkG, pdG, saG, h1.2, hb, cnt_end (by omega), cnt_end (by omega), Nat.sub_self]
    exact ⟨rfl, rfl, rfl, rfl⟩
  · rw [hd] at h1; cases h1

theorem rsum_zero {n : Nat} {g : Nat → Nat} (h : ∀ s, s < n → g s = 0) : rsum n g = 0 := by
  have := rsum_const n 0 g fun s hs => by rw [h s hs]; exact Nat.le_refl _
  omega

theorem rsum_one {n t : Nat} {g : Nat → Nat} (ht : t < n) : g t ≤ rsum n g := by
  have := rsum_upd (n := n) (t := t) (g := fun s => if s = t then g t else 0) (h := g) ht fun s _ hne => by rw [if_neg hne]; exact Nat.zero_le _
  have h2 := rsum_upd (n := n) (t := t) (g := fun _ => 0) (h := fun s => if s = t then g t else 0) ht fun s _ hne => Nat.zero_le _
  simp only [if_true] at this h2
  have h3 := rsum_zero (n := n) (g := fun _ => 0) fun _ _ => rfl
  omega

theorem sem_fin {z0 : MZ} (h : SemI B E n R first ls z0) (hb : B < 20000) : ∃ gs v, SemJ B E n R first ls gs v (finish z0) ∧ ∀ t, t < (finish z0).ts.length → canZ (finish z0) (t : Int) = false := by
  have hw : WF z0 := by obtain ⟨_, _, h⟩ := h; exact h.sys.wf
  obtain ⟨⟨gs, v, h1⟩, h2⟩ := finish_inv (P := SemI B E n R first ls) (fun m t hP _ _ => hP.step t) h hw
  have hk : (finish z0).k < 20000 := by have := h1.pot; omega
  refine ⟨gs, v, h1, fun t ht => ?_⟩
  have := h2 t ht
  cases hcz : canZ (finish z0) (t : Int) with
  | false => rfl
  | true => exact absurd ⟨hcz, hk⟩ this

theorem semO_fin {z0 : MZ} (h : SemO B E n R first ls z0) (hb : B < 20000) : ∃ gs v, SemJ B E n R first ls gs v (finish z0) ∧ OneJ n ls gs v (finish z0).al ∧ ∀ t, t < (finish z0).ts.length → canZ (finish z0) (t : Int) = false := by
  have hw : WF z0 := by obtain ⟨_, _, h, _⟩ := h; exact h.sys.wf
  obtain ⟨⟨gs, v, h1, ho⟩, h2⟩ := finish_inv (P := SemO B E n R first ls) (fun m t hP _ _ => hP.step t) h hw
  have hk : (finish z0).k < 20000 := by have := h1.pot; omega
  refine ⟨gs, v, h1, ho, fun t ht => ?_⟩
  have := h2 t ht
  cases hcz : canZ (finish z0) (t : Int) with
  | false => rfl
  | true => exact absurd ⟨hcz, hk⟩ this

/-- Where nobody can go on, and somebody sleeps, there is nothing. -/
theorem sem_none {gs : Nat → GZ} {v : Int} {z : MZ} (h : SemJ B E n R first ls gs v z) (hno : ∀ t, t < z.ts.length → canZ z (t : Int) = false) (hs : z.ss ≠ []) : v = 0 := by
  have h1 := h.jn hs
  have h2 := rsum_zero (n := n) (g := fun s => if slp z.ss s = true then 0 else pdG (ls s) (gs s)) fun s hsn => by
    try dsimp only
    rcases sem_stop h hno hsn with h3 | h3
    · split
      · rfl
      · exact (sem_done h hsn h3).2.2.1
    · rw [if_pos h3]
  rw [h2] at h1
  have := h.v0
  omega

theorem sem_all {gs : Nat → GZ} {v : Int} {z : MZ} (h : SemJ B E n R first ls gs v z) (hno : ∀ t, t < z.ts.length → canZ z (t : Int) = false) (hs : z.ss = []) : (∀ t, t < n → (gs t).y.dn = true) ∧ ∀ x ∈ z.ts, x.dn = true := by
  have h1 : ∀ t, t < n → (gs t).y.dn = true := fun t ht => by
    rcases sem_stop h hno ht with h1 | h1
    · exact h1
    · rw [hs] at h1; cases h1
  refine ⟨h1, fun x hx => ?_⟩
  obtain ⟨t, ht⟩ := List.mem_iff_getElem?.1 hx
  have htn : t < n := by rw [← h.sys.ln]; exact (List.getElem?_eq_some_iff.1 ht).1
  rw [h.sys.ts t htn] at ht
  obtain rfl := Option.some.inj ht
  exact h1 t htn

theorem all_ofS {m : MZ} (h : ∀ x ∈ m.ts, x.dn = true) : allZ m = true := List.all_eq_true.2 h
theorem stuck_ofS {m : MZ} (h : ∀ x ∈ m.ts, x.dn = true) : stuckZ m = false := by rw [stuckZ, all_ofS h, Bool.not_true, Bool.and_false]

/-- In the end, where no thread that gives takes. -/
theorem sem_ends {gs : Nat → GZ} {v : Int} {z : MZ} (h : SemJ B E n R first ls gs v z) (hno : ∀ t, t < z.ts.length → canZ z (t : Int) = false) (hp : ∀ t, t < n → (∀ b ∈ ls t, b = false) ∨ ∀ b ∈ ls t, b = true) :
    allZ z = decide (0 ≤ R) ∧ stuckZ z = decide (R < 0) ∧ v = max 0 R := by
  have hv := h.hv
  have hgv : rsum n (fun t => gvG (ls t) (gs t)) = 0 := rsum_zero fun t ht => by
    rcases sem_stop h hno ht with h1 | h1
    · exact (sem_done h ht h1).1
    · rw [slp, List.any_eq_true] at h1
      obtain ⟨s, hs, e⟩ := h1
      obtain ⟨_, h2, h3, _⟩ := h.sl s hs
      have e : s.t = (t : Int) := by simpa using e
      rw [e, Int.toNat_natCast] at h2 h3
      rcases hp t ht with hp | hp
      · rw [gvG, h2]
        show cnt true (ls t) _ + 0 = 0
        rw [Nat.add_zero, cnt, List.count_eq_zero]
        intro hm
        have := hp true (List.mem_of_mem_drop hm)
        cases this
      · have := hp false (List.mem_of_getElem? h2)
        cases this
  rw [hgv] at hv
  by_cases hs : z.ss = []
  · obtain ⟨h1, h2⟩ := sem_all h hno hs
    have htk : rsum n (fun t => tkG (ls t) (gs t)) = 0 := rsum_zero fun t ht => (sem_done h ht (h1 t ht)).2.1
    have hv0 := h.v0
    rw [htk] at hv
    rw [all_ofS h2, stuck_ofS h2, decide_eq_true (by omega), decide_eq_false (by omega)]
    exact ⟨rfl, rfl, by omega⟩
  · have hv0 := sem_none h hno hs
    obtain ⟨s, hs'⟩ : ∃ s, s ∈ z.ss := List.exists_mem_of_ne_nil _ hs
    obtain ⟨_, h2, h3, h4⟩ := h.sl s hs'
    have hsn := h.sys.wf.ss.2 s hs'
    rw [h.sys.ln] at hsn
    have h5 : 1 ≤ tkG (ls s.t.toNat) (gs s.t.toNat) := by
      rw [tkG, h2, h3]
      show 1 ≤ _ + 1
      omega
    have h6 := rsum_one (n := n) (t := s.t.toNat) (g := fun t => tkG (ls t) (gs t)) (by omega)
    try dsimp only at h6
    have hRn : R < 0 := by omega
    have hall : allZ z = false := by
      rw [allZ, List.all_eq_false]
      exact ⟨_, List.mem_of_getElem? (h.sys.ts s.t.toNat (by omega)), by show ¬ (gs s.t.toNat).y.dn = true; rw [h4]; decide⟩
    rw [hall, decide_eq_false (by omega), decide_eq_true hRn, stuckZ, hall]
    refine ⟨rfl, ?_, by omega⟩
    rw [Bool.not_false, Bool.and_true, List.all_eq_true]
    intro t ht
    have := hno t (List.mem_range.1 ht)
    rw [this]; rfl

end
end Go.Mac
end
