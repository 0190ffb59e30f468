/- Threads that take, and give: each step keeps what holds. -/
import Derived.Test.YtlimhldkkbaohaaDoorQSemaZ
import Derived.Test.YtlimhldkkbaohaaDoorGBase
open Go Go.Proofs Go.Mac
set_option maxRecDepth 100000
namespace Go.Mac

theorem gv_at {l : List Bool} {j : Nat} {b : Bool} (h : l[j]? = some b) (y : ThZ) : gvG l ⟨j, y⟩ = cnt true l (j + 1) + gvN (some b) y.pc := by rw [gvG, h]
theorem tk_at {l : List Bool} {j : Nat} {b : Bool} (h : l[j]? = some b) (y : ThZ) : tkG l ⟨j, y⟩ = cnt false l (j + 1) + tkN (some b) y.pc (rgZ y.rg 3) := by rw [tkG, h]
theorem pd_at {l : List Bool} {j : Nat} {b : Bool} (h : l[j]? = some b) (y : ThZ) : pdG l ⟨j, y⟩ = pdN (some b) y.pc (rgZ y.rg 3) := by rw [pdG, h]
theorem pot_at {v : Int} {l : List Bool} {j : Nat} {b : Bool} (h : l[j]? = some b) (o : Nat) (r : List Int) : potG v l ⟨j, ⟨o, r, false⟩⟩ = 53 * (l.length - (j + 1)) + potN v (some b) o (rgZ r 1) (rgZ r 3) + 1 := by rw [potG, h]; rfl

theorem gv_out {l : List Bool} (j : Nat) (r : List Int) : gvG l ⟨j + 1, ⟨0, r, false⟩⟩ = cnt true l (j + 1) := gv_next l (j + 1)
theorem tk_out {l : List Bool} (j : Nat) (r : List Int) : tkG l ⟨j + 1, ⟨0, r, false⟩⟩ = cnt false l (j + 1) := tk_next l (j + 1) _
theorem pot_out (v : Int) {l : List Bool} (j : Nat) (r : List Int) : potG v l ⟨j + 1, ⟨0, r, false⟩⟩ ≤ 53 * (l.length - (j + 1)) + 1 := by
  have := pot_next v l (j + 1) (rgZ r 1) (rgZ r 3)
  show 53 * (l.length - (j + 1 + 1)) + potN v l[j + 1]? 0 (rgZ r 1) (rgZ r 3) + 1 ≤ _
  omega

/-- Does it have it? Where each one takes and gives. -/
def hdN (c : Option Bool) (o : Nat) (r3 : Int) : Bool :=
  match c with
  | some true => o == 0
  | some false => o == 5 || o == 8 || (o == 4 && r3 != 0)
  | none => false
def hdG (l : List Bool) (g : GZ) : Bool := hdN l[g.j]? g.y.pc (rgZ g.y.rg 3)

theorem hd_at {l : List Bool} {j : Nat} {b : Bool} (h : l[j]? = some b) (y : ThZ) : hdG l ⟨j, y⟩ = hdN (some b) y.pc (rgZ y.rg 3) := by rw [hdG, h]

/-- First it takes, then it gives, and so on. -/
def altL (l : List Bool) : Prop := ∀ j, (l[j]? = some false → l[j + 1]? = some true) ∧ (l[j]? = some true → l[j + 1]? ≠ some true)

/-- Who has it, by what was done; -1: nobody; none: it is wrong. -/
def solS (h : Option Int) (a : ActZ) : Option Int :=
  match h with
  | none => none
  | some g => if a.o = 9 ∧ a.x ≠ a.y then (if 0 ≤ g then none else some a.t) else if a.o = 8 then (if g = a.t then some (-1) else none) else some g

def solZ (l : List ActZ) : Option Int := l.foldl solS (some (-1))

theorem solZ_snoc (l : List ActZ) (a : ActZ) : solZ (l ++ [a]) = solS (solZ l) a := by
  rw [solZ, List.foldl_append]; rfl

def OneJ (n : Nat) (ls : Nat → List Bool) (gs : Nat → GZ) (v : Int) (al : List ActZ) : Prop :=
  (∀ t, t < n → altL (ls t)) ∧ ∃ h : Int, solZ al = some h ∧ (∀ t, t < n → (hdG (ls t) (gs t) = true ↔ h = t)) ∧ (h = -1 ∧ v = 1 ∨ 0 ≤ h ∧ h < n ∧ v = 0)

theorem one_same {n : Nat} {ls : Nat → List Bool} {gs : Nat → GZ} {v : Int} {al al' : List ActZ} {t : Nat} {g g' : GZ} (hgt : gs t = g) (hh : hdG (ls t) g' = hdG (ls t) g) (ha : al' = al ∨ ∃ a : ActZ, a.o ≠ 8 ∧ (a.o ≠ 9 ∨ a.x = a.y) ∧ al' = al ++ [a])
    (h : OneJ n ls gs v al) : OneJ n ls (updG gs t g') v al' := by
  obtain ⟨h0, h, h1, h2, h3⟩ := h
  refine ⟨h0, h, ?_, fun s hs => ?_, h3⟩
  · rcases ha with rfl | ⟨a, a1, a2, rfl⟩
    · exact h1
    · rw [solZ_snoc, h1, solS]
      try dsimp only
      rw [if_neg (by rcases a2 with a2 | a2 <;> simp [a2]), if_neg a1]
  · by_cases hst : s = t
    · subst hst; rw [updG_same, hh, ← hgt]; exact h2 s hs
    · rw [updG_ne _ _ hst]; exact h2 s hs

theorem one_take {n : Nat} {ls : Nat → List Bool} {gs : Nat → GZ} {v : Int} {al : List ActZ} {t : Nat} {g' : GZ} {k x : Int} (ht : t < n) (hv : 0 < v) (hh : hdG (ls t) g' = true) (hx : x = v - 1)
    (h : OneJ n ls gs v al) : OneJ n ls (updG gs t g') x (al ++ [⟨k, t, 9, 0, v, x⟩]) := by
  obtain ⟨h0, h, h1, h2, h3⟩ := h
  have hv1 : h = -1 ∧ v = 1 := by omega
  obtain ⟨rfl, rfl⟩ := hv1
  refine ⟨h0, t, ?_, fun s hs => ?_, .inr ⟨by omega, by omega, by omega⟩⟩
  · rw [solZ_snoc, h1, solS]
    try dsimp only
    rw [if_pos ⟨rfl, by omega⟩, if_neg (by decide)]
  · by_cases hst : s = t
    · subst hst; rw [updG_same, hh]; simp
    · rw [updG_ne _ _ hst]
      have := h2 s hs
      constructor
      · intro h; have := this.1 h; omega
      · intro h; omega

theorem one_give {n : Nat} {ls : Nat → List Bool} {gs : Nat → GZ} {v : Int} {al : List ActZ} {t : Nat} {g g' : GZ} {k x y : Int} (ht : t < n) (hgt : gs t = g) (hh : hdG (ls t) g = true) (hh' : hdG (ls t) g' = false)
    (h : OneJ n ls gs v al) : OneJ n ls (updG gs t g') (v + 1) (al ++ [⟨k, t, 8, 0, x, y⟩]) := by
  obtain ⟨h0, h, h1, h2, h3⟩ := h
  have h4 := (h2 t ht).1 (by rw [hgt]; exact hh)
  subst h4
  refine ⟨h0, -1, ?_, fun s hs => ?_, .inl ⟨rfl, by omega⟩⟩
  · rw [solZ_snoc, h1, solS]
    try dsimp only
    rw [if_neg (by simp), if_pos rfl, if_pos rfl]
  · by_cases hst : s = t
    · subst hst; rw [updG_same, hh']; simp <;> omega
    · rw [updG_ne _ _ hst]
      have := h2 s hs
      constructor
      · intro h; have := this.1 h; omega
      · intro h; omega

theorem left_same {v : Int} (hv : 0 ≤ v) {first : Int} {al : List ActZ} (h : leftZ first al = some v) {a : ActZ} (h8 : a.o ≠ 8) (h9 : a.o ≠ 9 ∨ a.x = a.y) : leftZ first (al ++ [a]) = some v := by
  have h10 : ¬ (a.o = 9 ∧ a.x ≠ a.y) := by rcases h9 with h | h <;> simp [h]
  rw [leftZ_snoc, h, leftS]
  rw [if_neg h10, if_neg h8, if_neg (by omega)]

theorem left_take {v : Int} (hv : 0 < v) {first : Int} {al : List ActZ} (h : leftZ first al = some v) {k t x : Int} (hx : x = v - 1) : leftZ first (al ++ [⟨k, t, 9, 0, v, x⟩]) = some x := by
  subst hx
  rw [leftZ_snoc, h]
  have hne : v ≠ v - 1 := by omega
  have h2 : ¬ v - 1 < 0 := by omega
  simp [leftS, hne, h2]

theorem left_give {v : Int} (hv : 0 ≤ v) {first : Int} {al : List ActZ} (h : leftZ first al = some v) {k t x y : Int} : leftZ first (al ++ [⟨k, t, 8, 0, x, y⟩]) = some (v + 1) := by
  rw [leftZ_snoc, h]
  have h2 : ¬ v + 1 < 0 := by omega
  simp [leftS, h2]

theorem rsum_two {n t s0 : Nat} {f1 f2 : Nat → Nat} (ht : t < n) (hs0 : s0 < n) (hne : s0 ≠ t) (h : ∀ s, s < n → s ≠ t → s ≠ s0 → f1 s ≤ f2 s) : rsum n f1 + f2 t + f2 s0 ≤ rsum n f2 + f1 t + f1 s0 := by
  have h1 := rsum_upd (n := n) (t := s0) (g := f1) (h := fun s => if s = t then f1 t else f2 s) hs0 fun s hs hn => by
    show f1 s ≤ if s = t then f1 t else f2 s
    split
    · rename_i e; subst e; exact Nat.le_refl _
    · rename_i e; exact h s hs e hn
  have h2 := rsum_upd (n := n) (t := t) (g := fun s => if s = t then f1 t else f2 s) (h := f2) ht fun s hs hn => by
    show (if s = t then f1 t else f2 s) ≤ f2 s
    rw [if_neg hn]
    exact Nat.le_refl _
  try dsimp only at h1 h2
  rw [if_neg hne] at h1
  rw [if_pos rfl] at h2
  omega

section
variable {B E n : Nat} {R first : Int} {ls : Nat → List Bool} {gs : Nat → GZ} {v : Int} {m : MZ}

theorem sem_step (h : SemJ B E n R first ls gs v m) {t : Nat} (hc : canZ m t = true) (hk : m.k < 20000) : ∃ gs' v', SemJ B E n R first ls gs' v' (stepZ m t).2 ∧ (OneJ n ls gs v m.al → OneJ n ls gs' v' (stepZ m t).2.al) := by
  obtain ⟨ht, hd, hno⟩ := h.sys.can hc
  obtain ⟨r1, r2, r3, hrg, hcase⟩ := h.th t ht
  obtain ⟨g, hgt⟩ : ∃ g, gs t = g := ⟨_, rfl⟩
  rw [hgt] at hd hrg hcase
  obtain ⟨hv0, hv1⟩ := h.v0
  have hx := h.sys.ts t ht
  have hrr := (h.sys.wf.rg _ (List.mem_of_getElem? hx)).2 r1 (by rw [hgt]; show r1 ∈ g.y.rg; rw [hrg]; simp)
  have hfo := h.fo
  obtain ⟨j, o, rg, dn⟩ := g
  dsimp only at hd hrg hcase
  subst hd hrg
  have hal : ∀ {i : InsZ} {y' : ThZ} {v' : Int} {e : Eff}, insG ((ls t).map semB) ⟨j, ⟨o, [0, r1, r2, r3, 0, 0, 0, 0], false⟩⟩ = some i → oneC i = true → nextZ i ⟨o, [0, r1, r2, r3, 0, 0, 0, 0], false⟩ v = (y', v', e) → (stepZ m t).2.al = effA (m.k + 1) t m.al e := fun hi ho hn =>
    (h.sys.go hc hk (by rw [hgt]; exact hi) ho (by rw [hgt]; exact hn)).2.2.1
  rcases hcase with ⟨h1, _⟩ | ⟨_, ⟨b, hb, hok⟩ | ⟨rfl, rfl⟩⟩
  · cases h1
  · cases b with
    | false =>
      obtain ⟨ho9, ok2, ok3, ok4, ok6⟩ := hok
      rcases (show o = 0 ∨ o = 1 ∨ o = 2 ∨ o = 3 ∨ o = 4 ∨ o = 5 ∨ o = 6 ∨ o = 7 ∨ o = 8 by omega) with rfl | rfl | rfl | rfl | rfl | rfl | rfl | rfl | rfl
      · skip
        have hi : insG ((ls t).map semB) ⟨j, ⟨0, [0, r1, r2, r3, 0, 0, 0, 0], false⟩⟩ = some ⟨6, 1, 0, 0, 0⟩ := ins_at hb _
        have hn : nextZ ⟨6, 1, 0, 0, 0⟩ ⟨0, [0, r1, r2, r3, 0, 0, 0, 0], false⟩ v = (⟨1, [0, v, r2, r3, 0, 0, 0, 0], false⟩, v, .act 6 v v) := rfl
        have ea := hal hi (by decide) hn
        refine ⟨_, v, sem_plain h hc hk hgt hi (by decide) (d := 0) (g' := ⟨j, ⟨1, [0, v, r2, r3, 0, 0, 0, 0], false⟩⟩) hn (norm_in hb (show 1 < 9 from by decide)) (fun _ => rfl) ⟨_, _, _, rfl, .inr ⟨rfl, .inl ⟨_, hb, (by simp [semOk] <;> omega)⟩⟩⟩ (by omega) (.inl ⟨rfl, rfl⟩) ?_ ?_ (left_same hv0 hfo (show (6 : Int) ≠ 8 from by decide) (.inl (show (6 : Int) ≠ 9 from by decide))) (by rfl) ?_, fun hO => ?_⟩
        · rw [gv_at hb, gv_at hb, tk_at hb, tk_at hb]; simp [gvN, tkN, rgZ] <;> omega
        · rw [pd_at hb, pd_at hb]; simp [pdN, rgZ] <;> omega
        · rw [pot_at hb, pot_at hb]; simp [potN, rgZ] <;> (repeat' split) <;> omega
        · rw [ea]; exact one_same hgt (by rw [hd_at hb, hd_at hb]; rfl) (.inr ⟨_, show (6 : Int) ≠ 8 from by decide, .inl (show (6 : Int) ≠ 9 from by decide), rfl⟩) hO
      · by_cases h1 : r1 = 0
        · skip
          have hi : insG ((ls t).map semB) ⟨j, ⟨1, [0, r1, r2, r3, 0, 0, 0, 0], false⟩⟩ = some ⟨11, 1, 0, 6, 0⟩ := ins_at hb _
          have hn : nextZ ⟨11, 1, 0, 6, 0⟩ ⟨1, [0, r1, r2, r3, 0, 0, 0, 0], false⟩ v = (⟨6, [0, r1, r2, r3, 0, 0, 0, 0], false⟩, v, .no) := by show ((if r1 = u64m 0 then _ else _ : ThZ), v, Eff.no) = _; rw [if_pos (by rw [h1]; rfl)]; rfl
          have ea := hal hi (by decide) hn
          refine ⟨_, v, sem_plain h hc hk hgt hi (by decide) (d := 0) (g' := ⟨j, ⟨6, [0, r1, r2, r3, 0, 0, 0, 0], false⟩⟩) hn (norm_in hb (show 6 < 9 from by decide)) (fun _ => rfl) ⟨_, _, _, rfl, .inr ⟨rfl, .inl ⟨_, hb, (by simp [semOk] <;> omega)⟩⟩⟩ (by omega) (.inl ⟨rfl, rfl⟩) ?_ ?_ hfo (by rfl) ?_, fun hO => ?_⟩
          · rw [gv_at hb, gv_at hb, tk_at hb, tk_at hb]; simp [gvN, tkN, rgZ] <;> omega
          · rw [pd_at hb, pd_at hb]; simp [pdN, rgZ] <;> omega
          · rw [pot_at hb, pot_at hb]; simp [potN, rgZ] <;> (repeat' split) <;> omega
          · rw [ea]; exact one_same hgt (by rw [hd_at hb, hd_at hb]; rfl) (.inl rfl) hO
        · skip
          have hi : insG ((ls t).map semB) ⟨j, ⟨1, [0, r1, r2, r3, 0, 0, 0, 0], false⟩⟩ = some ⟨11, 1, 0, 6, 0⟩ := ins_at hb _
          have hn : nextZ ⟨11, 1, 0, 6, 0⟩ ⟨1, [0, r1, r2, r3, 0, 0, 0, 0], false⟩ v = (⟨2, [0, r1, r2, r3, 0, 0, 0, 0], false⟩, v, .no) := by show ((if r1 = u64m 0 then _ else _ : ThZ), v, Eff.no) = _; rw [if_neg (fun e => h1 (e.trans rfl))]
          have ea := hal hi (by decide) hn
          refine ⟨_, v, sem_plain h hc hk hgt hi (by decide) (d := 0) (g' := ⟨j, ⟨2, [0, r1, r2, r3, 0, 0, 0, 0], false⟩⟩) hn (norm_in hb (show 2 < 9 from by decide)) (fun _ => rfl) ⟨_, _, _, rfl, .inr ⟨rfl, .inl ⟨_, hb, (by simp [semOk] <;> omega)⟩⟩⟩ (by omega) (.inl ⟨rfl, rfl⟩) ?_ ?_ hfo (by rfl) ?_, fun hO => ?_⟩
          · rw [gv_at hb, gv_at hb, tk_at hb, tk_at hb]; simp [gvN, tkN, rgZ] <;> omega
          · rw [pd_at hb, pd_at hb]; simp [pdN, rgZ] <;> omega
          · rw [pot_at hb, pot_at hb]; simp [potN, rgZ] <;> (repeat' split) <;> omega
          · rw [ea]; exact one_same hgt (by rw [hd_at hb, hd_at hb]; rfl) (.inl rfl) hO
      · have ok2 := ok2 rfl
        have hu : u64m (r1 + u64m (-1)) = r1 - 1 := by rw [u64m, show u64m (-1) = 18446744073709551615 by rfl, wrap_u64_mod]; omega
        have hi : insG ((ls t).map semB) ⟨j, ⟨2, [0, r1, r2, r3, 0, 0, 0, 0], false⟩⟩ = some ⟨3, 2, 1, -1, 0⟩ := ins_at hb _
        have hn : nextZ ⟨3, 2, 1, -1, 0⟩ ⟨2, [0, r1, r2, r3, 0, 0, 0, 0], false⟩ v = (⟨3, [0, r1, r1 - 1, r3, 0, 0, 0, 0], false⟩, v, .no) := by show ((⟨3, [0, r1, u64m (r1 + u64m (-1)), r3, 0, 0, 0, 0], false⟩ : ThZ), v, Eff.no) = _; rw [hu]
        have ea := hal hi (by decide) hn
        refine ⟨_, v, sem_plain h hc hk hgt hi (by decide) (d := 0) (g' := ⟨j, ⟨3, [0, r1, r1 - 1, r3, 0, 0, 0, 0], false⟩⟩) hn (norm_in hb (show 3 < 9 from by decide)) (fun _ => rfl) ⟨_, _, _, rfl, .inr ⟨rfl, .inl ⟨_, hb, (by simp [semOk] <;> omega)⟩⟩⟩ (by omega) (.inl ⟨rfl, rfl⟩) ?_ ?_ hfo (by rfl) ?_, fun hO => ?_⟩
        · rw [gv_at hb, gv_at hb, tk_at hb, tk_at hb]; simp [gvN, tkN, rgZ] <;> omega
        · rw [pd_at hb, pd_at hb]; simp [pdN, rgZ] <;> omega
        · rw [pot_at hb, pot_at hb]; simp [potN, rgZ] <;> (repeat' split) <;> omega
        · rw [ea]; exact one_same hgt (by rw [hd_at hb, hd_at hb]; rfl) (.inl rfl) hO
      · obtain ⟨ok3, rfl⟩ := ok3 rfl
        by_cases h1 : v = r1
        · skip
          have hi : insG ((ls t).map semB) ⟨j, ⟨3, [0, r1, r1 - 1, r3, 0, 0, 0, 0], false⟩⟩ = some ⟨9, 3, 0, 1, 2⟩ := ins_at hb _
          have hn : nextZ ⟨9, 3, 0, 1, 2⟩ ⟨3, [0, r1, r1 - 1, r3, 0, 0, 0, 0], false⟩ v = (⟨4, [0, r1, r1 - 1, 1, 0, 0, 0, 0], false⟩, (r1 - 1), .act 9 v (r1 - 1)) := by show (if v = r1 then _ else _) = _; rw [if_pos h1]; rfl
          have ea := hal hi (by decide) hn
          refine ⟨_, (r1 - 1), sem_plain h hc hk hgt hi (by decide) (d := 5) (g' := ⟨j, ⟨4, [0, r1, r1 - 1, 1, 0, 0, 0, 0], false⟩⟩) hn (norm_in hb (show 4 < 9 from by decide)) (fun _ => rfl) ⟨_, _, _, rfl, .inr ⟨rfl, .inl ⟨_, hb, (by simp [semOk] <;> omega)⟩⟩⟩ (by omega) (.inr rfl) ?_ ?_ (left_take (by omega) hfo (by omega)) (by rfl) ?_, fun hO => ?_⟩
          · rw [gv_at hb, gv_at hb, tk_at hb, tk_at hb]; simp [gvN, tkN, rgZ] <;> omega
          · rw [pd_at hb, pd_at hb]; simp [pdN, rgZ] <;> omega
          · rw [pot_at hb, pot_at hb]; simp [potN, rgZ] <;> (repeat' split) <;> omega
          · rw [ea]; exact one_take ht (by omega) (by rw [hd_at hb]; rfl) (by omega) hO
        · skip
          have hi : insG ((ls t).map semB) ⟨j, ⟨3, [0, r1, r1 - 1, r3, 0, 0, 0, 0], false⟩⟩ = some ⟨9, 3, 0, 1, 2⟩ := ins_at hb _
          have hn : nextZ ⟨9, 3, 0, 1, 2⟩ ⟨3, [0, r1, r1 - 1, r3, 0, 0, 0, 0], false⟩ v = (⟨4, [0, r1, r1 - 1, 0, 0, 0, 0, 0], false⟩, v, .act 9 v v) := by show (if v = r1 then _ else _) = _; rw [if_neg h1]; rfl
          have ea := hal hi (by decide) hn
          refine ⟨_, v, sem_plain h hc hk hgt hi (by decide) (d := 0) (g' := ⟨j, ⟨4, [0, r1, r1 - 1, 0, 0, 0, 0, 0], false⟩⟩) hn (norm_in hb (show 4 < 9 from by decide)) (fun _ => rfl) ⟨_, _, _, rfl, .inr ⟨rfl, .inl ⟨_, hb, (by simp [semOk] <;> omega)⟩⟩⟩ (by omega) (.inl ⟨rfl, rfl⟩) ?_ ?_ (left_same hv0 hfo (show (9 : Int) ≠ 8 from by decide) (.inr rfl)) (by rfl) ?_, fun hO => ?_⟩
          · rw [gv_at hb, gv_at hb, tk_at hb, tk_at hb]; simp [gvN, tkN, rgZ] <;> omega
          · rw [pd_at hb, pd_at hb]; simp [pdN, rgZ] <;> omega
          · rw [pot_at hb, pot_at hb]; simp [potN, rgZ] <;> (repeat' split) <;> omega
          · rw [ea]; exact one_same hgt (by rw [hd_at hb, hd_at hb]; rfl) (.inr ⟨_, show (9 : Int) ≠ 8 from by decide, .inr rfl, rfl⟩) hO
      · rcases ok4 rfl with rfl | rfl
        · skip
          have hi : insG ((ls t).map semB) ⟨j, ⟨4, [0, r1, r2, 0, 0, 0, 0, 0], false⟩⟩ = some ⟨11, 3, 0, 0, 0⟩ := ins_at hb _
          have hn : nextZ ⟨11, 3, 0, 0, 0⟩ ⟨4, [0, r1, r2, 0, 0, 0, 0, 0], false⟩ v = (⟨0, [0, r1, r2, 0, 0, 0, 0, 0], false⟩, v, .no) := rfl
          have ea := hal hi (by decide) hn
          refine ⟨_, v, sem_plain h hc hk hgt hi (by decide) (d := 0) (g' := ⟨j, ⟨0, [0, r1, r2, 0, 0, 0, 0, 0], false⟩⟩) hn (norm_in hb (show 0 < 9 from by decide)) (fun _ => rfl) ⟨_, _, _, rfl, .inr ⟨rfl, .inl ⟨_, hb, (by simp [semOk] <;> omega)⟩⟩⟩ (by omega) (.inl ⟨rfl, rfl⟩) ?_ ?_ hfo (by rfl) ?_, fun hO => ?_⟩
          · rw [gv_at hb, gv_at hb, tk_at hb, tk_at hb]; simp [gvN, tkN, rgZ] <;> omega
          · rw [pd_at hb, pd_at hb]; simp [pdN, rgZ] <;> omega
          · rw [pot_at hb, pot_at hb]; simp [potN, rgZ] <;> (repeat' split) <;> omega
          · rw [ea]; exact one_same hgt (by rw [hd_at hb, hd_at hb]; rfl) (.inl rfl) hO
        · skip
          have hi : insG ((ls t).map semB) ⟨j, ⟨4, [0, r1, r2, 1, 0, 0, 0, 0], false⟩⟩ = some ⟨11, 3, 0, 0, 0⟩ := ins_at hb _
          have hn : nextZ ⟨11, 3, 0, 0, 0⟩ ⟨4, [0, r1, r2, 1, 0, 0, 0, 0], false⟩ v = (⟨5, [0, r1, r2, 1, 0, 0, 0, 0], false⟩, v, .no) := rfl
          have ea := hal hi (by decide) hn
          refine ⟨_, v, sem_plain h hc hk hgt hi (by decide) (d := 0) (g' := ⟨j, ⟨5, [0, r1, r2, 1, 0, 0, 0, 0], false⟩⟩) hn (norm_in hb (show 5 < 9 from by decide)) (fun _ => rfl) ⟨_, _, _, rfl, .inr ⟨rfl, .inl ⟨_, hb, (by simp [semOk] <;> omega)⟩⟩⟩ (by omega) (.inl ⟨rfl, rfl⟩) ?_ ?_ hfo (by rfl) ?_, fun hO => ?_⟩
          · rw [gv_at hb, gv_at hb, tk_at hb, tk_at hb]; simp [gvN, tkN, rgZ] <;> omega
          · rw [pd_at hb, pd_at hb]; simp [pdN, rgZ] <;> omega
          · rw [pot_at hb, pot_at hb]; simp [potN, rgZ] <;> (repeat' split) <;> omega
          · rw [ea]; exact one_same hgt (by rw [hd_at hb, hd_at hb]; rfl) (.inl rfl) hO
      · skip
        have hi : insG ((ls t).map semB) ⟨j, ⟨5, [0, r1, r2, r3, 0, 0, 0, 0], false⟩⟩ = some ⟨10, 8, 0, 0, 0⟩ := ins_at hb _
        have hn : nextZ ⟨10, 8, 0, 0, 0⟩ ⟨5, [0, r1, r2, r3, 0, 0, 0, 0], false⟩ v = (⟨8, [0, r1, r2, r3, 0, 0, 0, 0], false⟩, v, .no) := rfl
        have ea := hal hi (by decide) hn
        refine ⟨_, v, sem_plain h hc hk hgt hi (by decide) (d := 0) (g' := ⟨j, ⟨8, [0, r1, r2, r3, 0, 0, 0, 0], false⟩⟩) hn (norm_in hb (show 8 < 9 from by decide)) (fun _ => rfl) ⟨_, _, _, rfl, .inr ⟨rfl, .inl ⟨_, hb, (by simp [semOk] <;> omega)⟩⟩⟩ (by omega) (.inl ⟨rfl, rfl⟩) ?_ ?_ hfo (by rfl) ?_, fun hO => ?_⟩
        · rw [gv_at hb, gv_at hb, tk_at hb, tk_at hb]; simp [gvN, tkN, rgZ] <;> omega
        · rw [pd_at hb, pd_at hb]; simp [pdN, rgZ] <;> omega
        · rw [pot_at hb, pot_at hb]; simp [potN] <;> (repeat' split) <;> omega
        · rw [ea]; exact one_same hgt (by rw [hd_at hb, hd_at hb]; rfl) (.inl rfl) hO
      · have ok6 := ok6 rfl
        by_cases h1 : v = r1
        · have hi : insG ((ls t).map semB) ⟨j, ⟨6, [0, r1, r2, r3, 0, 0, 0, 0], false⟩⟩ = some ⟨14, 0, 1, 0, 0⟩ := ins_at hb _
          have hn : nextZ ⟨14, 0, 1, 0, 0⟩ ⟨6, [0, r1, r2, r3, 0, 0, 0, 0], false⟩ v = (⟨7, [0, r1, r2, r3, 0, 0, 0, 0], false⟩, v, .sleep) := by show (_, v, (if v = r1 then Eff.sleep else Eff.no)) = _; rw [if_pos h1]
          have ea := hal hi (by decide) hn
          refine ⟨_, v, sem_upd h hc hk hgt hi (by decide) (d := 0) (g' := ⟨j, ⟨7, [0, r1, r2, r3, 0, 0, 0, 0], false⟩⟩) hn (norm_in hb (show 7 < 9 from by decide)) ⟨_, _, _, rfl, .inr ⟨rfl, .inl ⟨_, hb, (by simp [semOk] <;> omega)⟩⟩⟩ (by omega) (.inl ⟨rfl, rfl⟩) ?_ (fun s hs => ?_) (fun _ => by omega) hfo rfl ?_, fun hO => ?_⟩
          · rw [gv_at hb, gv_at hb, tk_at hb, tk_at hb]; rfl
          · rcases List.mem_append.1 hs with hs | hs
            · exact .inl hs
            · exact .inr ⟨List.mem_singleton.1 hs, hb, rfl, rfl⟩
          · rw [pot_at hb, pot_at hb, effS, List.length_append]; simp [potN, rgZ, h1]; omega
          · rw [ea]; exact one_same hgt (by rw [hd_at hb, hd_at hb]; rfl) (.inl rfl) hO
        · skip
          have hi : insG ((ls t).map semB) ⟨j, ⟨6, [0, r1, r2, r3, 0, 0, 0, 0], false⟩⟩ = some ⟨14, 0, 1, 0, 0⟩ := ins_at hb _
          have hn : nextZ ⟨14, 0, 1, 0, 0⟩ ⟨6, [0, r1, r2, r3, 0, 0, 0, 0], false⟩ v = (⟨7, [0, r1, r2, r3, 0, 0, 0, 0], false⟩, v, .no) := by show (_, v, (if v = r1 then Eff.sleep else Eff.no)) = _; rw [if_neg h1]
          have ea := hal hi (by decide) hn
          refine ⟨_, v, sem_plain h hc hk hgt hi (by decide) (d := 0) (g' := ⟨j, ⟨7, [0, r1, r2, r3, 0, 0, 0, 0], false⟩⟩) hn (norm_in hb (show 7 < 9 from by decide)) (fun _ => rfl) ⟨_, _, _, rfl, .inr ⟨rfl, .inl ⟨_, hb, (by simp [semOk] <;> omega)⟩⟩⟩ (by omega) (.inl ⟨rfl, rfl⟩) ?_ ?_ hfo (by rfl) ?_, fun hO => ?_⟩
          · rw [gv_at hb, gv_at hb, tk_at hb, tk_at hb]; simp [gvN, tkN, rgZ] <;> omega
          · rw [pd_at hb, pd_at hb]; simp [pdN, rgZ] <;> omega
          · rw [pot_at hb, pot_at hb]; simp [potN, rgZ] <;> (repeat' split) <;> omega
          · rw [ea]; exact one_same hgt (by rw [hd_at hb, hd_at hb]; rfl) (.inl rfl) hO
      · skip
        have hi : insG ((ls t).map semB) ⟨j, ⟨7, [0, r1, r2, r3, 0, 0, 0, 0], false⟩⟩ = some ⟨10, 0, 0, 0, 0⟩ := ins_at hb _
        have hn : nextZ ⟨10, 0, 0, 0, 0⟩ ⟨7, [0, r1, r2, r3, 0, 0, 0, 0], false⟩ v = (⟨0, [0, r1, r2, r3, 0, 0, 0, 0], false⟩, v, .no) := rfl
        have ea := hal hi (by decide) hn
        refine ⟨_, v, sem_plain h hc hk hgt hi (by decide) (d := 0) (g' := ⟨j, ⟨0, [0, r1, r2, r3, 0, 0, 0, 0], false⟩⟩) hn (norm_in hb (show 0 < 9 from by decide)) (fun _ => rfl) ⟨_, _, _, rfl, .inr ⟨rfl, .inl ⟨_, hb, (by simp [semOk] <;> omega)⟩⟩⟩ (by omega) (.inl ⟨rfl, rfl⟩) ?_ ?_ hfo (by rfl) ?_, fun hO => ?_⟩
        · rw [gv_at hb, gv_at hb, tk_at hb, tk_at hb]; simp [gvN, tkN, rgZ] <;> omega
        · rw [pd_at hb, pd_at hb]; simp [pdN, rgZ] <;> omega
        · rw [pot_at hb, pot_at hb]; simp [potN] <;> (repeat' split) <;> omega
        · rw [ea]; exact one_same hgt (by rw [hd_at hb, hd_at hb]; rfl) (.inl rfl) hO
      · skip
        have hi : insG ((ls t).map semB) ⟨j, ⟨8, [0, r1, r2, r3, 0, 0, 0, 0], false⟩⟩ = some ⟨16, 3, 2, 0, 0⟩ := ins_at hb _
        have hn : nextZ ⟨16, 3, 2, 0, 0⟩ ⟨8, [0, r1, r2, r3, 0, 0, 0, 0], false⟩ v = (⟨9, [0, r1, r2, r3, 0, 0, 0, 0], false⟩, v, .say 3 (IntKind.i64.wrap r2)) := rfl
        have ea := hal hi (by decide) hn
        have po := pot_out v (l := ls t) j [0, r1, r2, r3, 0, 0, 0, 0]
        have hjl := (List.getElem?_eq_some_iff.1 hb).1
        refine ⟨_, v, sem_plain h hc hk hgt hi (by decide) (d := 0) (g' := ⟨j + 1, ⟨0, [0, r1, r2, r3, 0, 0, 0, 0], false⟩⟩) hn (norm_out hb rfl) (fun _ => rfl) (next_G hb _ _ _) (by omega) (.inl ⟨rfl, rfl⟩) (by rw [gv_out, tk_out, gv_at hb, tk_at hb]; rfl) (by rw [pd_at hb]; show v + ((0 : Nat) : Int) ≤ _; omega) hfo (by rw [effE, List.length_append]; show _ + 1 + ((ls t).length - (j + 1)) = _ + ((ls t).length - j); omega) (by rw [pot_at hb]; show _ ≤ _ + 1 + 1; omega), fun hO => ?_⟩
        rw [ea]
        exact one_same hgt (by rw [hd_at hb]; show hdN (ls t)[j + 1]? 0 _ = _; rw [(hO.1 t ht j).1 hb]; rfl) (.inl rfl) hO
    | true =>
      rcases (show o = 0 ∨ o = 1 ∨ o = 2 ∨ o = 3 by have : o < 4 := hok; omega) with rfl | rfl | rfl | rfl
      · have hu : u64m (v + u64m 1) = v + 1 := by rw [u64m, show u64m 1 = 1 by rfl, wrap_u64_mod]; omega
        have hi : insG ((ls t).map semB) ⟨j, ⟨0, [0, r1, r2, r3, 0, 0, 0, 0], false⟩⟩ = some ⟨8, 1, 0, 1, 0⟩ := ins_at hb _
        have hn : nextZ ⟨8, 1, 0, 1, 0⟩ ⟨0, [0, r1, r2, r3, 0, 0, 0, 0], false⟩ v = (⟨1, [0, v, r2, r3, 0, 0, 0, 0], false⟩, (v + 1), .act 8 v (v + 1)) := by show ((⟨1, [0, v, r2, r3, 0, 0, 0, 0], false⟩ : ThZ), u64m (v + u64m 1), Eff.act 8 v (u64m (v + u64m 1))) = _; rw [hu]
        have ea := hal hi (by decide) hn
        refine ⟨_, (v + 1), sem_plain h hc hk hgt hi (by decide) (d := 5) (g' := ⟨j, ⟨1, [0, v, r2, r3, 0, 0, 0, 0], false⟩⟩) hn (norm_in hb (show 1 < 4 from by decide)) (fun _ => rfl) ⟨_, _, _, rfl, .inr ⟨rfl, .inl ⟨_, hb, (by simp [semOk] <;> omega)⟩⟩⟩ (by omega) (.inr rfl) ?_ ?_ (left_give hv0 hfo) (by rfl) ?_, fun hO => ?_⟩
        · rw [gv_at hb, gv_at hb, tk_at hb, tk_at hb]; simp [gvN, tkN] <;> omega
        · rw [pd_at hb, pd_at hb]; simp [pdN] <;> omega
        · rw [pot_at hb, pot_at hb]; simp [potN] <;> (repeat' split) <;> omega
        · rw [ea]; exact one_give ht hgt (by rw [hd_at hb]; rfl) (by rw [hd_at hb]; rfl) hO
      · skip
        have hi : insG ((ls t).map semB) ⟨j, ⟨1, [0, r1, r2, r3, 0, 0, 0, 0], false⟩⟩ = some ⟨3, 2, 1, 1, 0⟩ := ins_at hb _
        have hn : nextZ ⟨3, 2, 1, 1, 0⟩ ⟨1, [0, r1, r2, r3, 0, 0, 0, 0], false⟩ v = (⟨2, [0, r1, u64m (r1 + u64m 1), r3, 0, 0, 0, 0], false⟩, v, .no) := rfl
        have ea := hal hi (by decide) hn
        refine ⟨_, v, sem_plain h hc hk hgt hi (by decide) (d := 0) (g' := ⟨j, ⟨2, [0, r1, u64m (r1 + u64m 1), r3, 0, 0, 0, 0], false⟩⟩) hn (norm_in hb (show 2 < 4 from by decide)) (fun _ => rfl) ⟨_, _, _, rfl, .inr ⟨rfl, .inl ⟨_, hb, (by simp [semOk] <;> omega)⟩⟩⟩ (by omega) (.inl ⟨rfl, rfl⟩) ?_ ?_ hfo (by rfl) ?_, fun hO => ?_⟩
        · rw [gv_at hb, gv_at hb, tk_at hb, tk_at hb]; simp [gvN, tkN] <;> omega
        · rw [pd_at hb, pd_at hb]; simp [pdN] <;> omega
        · rw [pot_at hb, pot_at hb]; simp [potN] <;> (repeat' split) <;> omega
        · rw [ea]; exact one_same hgt (by rw [hd_at hb, hd_at hb]; rfl) (.inl rfl) hO
      · have hi : insG ((ls t).map semB) ⟨j, ⟨2, [0, r1, r2, r3, 0, 0, 0, 0], false⟩⟩ = some ⟨15, 0, 1, -1, 0⟩ := ins_at hb _
        have hn : nextZ ⟨15, 0, 1, -1, 0⟩ ⟨2, [0, r1, r2, r3, 0, 0, 0, 0], false⟩ v = (⟨3, [0, r1, r2, r3, 0, 0, 0, 0], false⟩, v, .wake 1) := rfl
        have ea := hal hi (by decide) hn
        have hwk : effS t m.ss (.wake 1) = m.ss.tail := semWake1 fun s hs => (h.sl s hs).1
        refine ⟨_, v, sem_upd h hc hk hgt hi (by decide) (d := 0) (g' := ⟨j, ⟨3, [0, r1, r2, r3, 0, 0, 0, 0], false⟩⟩) hn (norm_in hb (show 3 < 4 from by decide)) ⟨_, _, _, rfl, .inr ⟨rfl, .inl ⟨_, hb, (by simp [semOk] <;> omega)⟩⟩⟩ (by omega) (.inl ⟨rfl, rfl⟩) ?_ (fun s hs => ?_) (fun hne => ?_) hfo rfl ?_, fun hO => ?_⟩
        · rw [gv_at hb, gv_at hb, tk_at hb, tk_at hb]; rfl
        · rw [hwk] at hs; exact .inl (List.mem_of_mem_tail hs)
        · rw [hwk] at hne ⊢
          have hjn := h.jn
          have hsl := h.sl
          have hnd := h.sys.wf.ss
          have hln := h.sys.ln
          cases hss : m.ss with
          | nil => rw [hss] at hne; exact absurd rfl hne
          | cons x xs =>
            rw [hss] at hjn hsl hnd hno
            have h1 := hjn (by simp)
            obtain ⟨_, x1, x2, x3⟩ := hsl x (by simp)
            obtain ⟨x4, x5, _⟩ := hnd.2 x (by simp)
            have hx0 : (x.t.toNat : Int) = x.t := by omega
            have hxt : x.t.toNat ≠ t := fun e => hno x (by simp) (by omega)
            have h2 := rsum_two (n := n) (t := t) (s0 := x.t.toNat) (f1 := fun s => if slp (x :: xs) s = true then 0 else pdG (ls s) (gs s)) (f2 := fun s => if slp xs s = true then 0 else pdG (ls s) (updG gs t ⟨j, ⟨3, [0, r1, r2, r3, 0, 0, 0, 0], false⟩⟩ s)) ht (by omega) hxt (fun s hs h3 h4 => ?_)
            · try dsimp only at h2
              have n1 : slp (x :: xs) x.t.toNat = true := by rw [slp, List.any_cons, hx0]; simp
              have n2 : slp xs x.t.toNat = false := slp_no fun s hs => by
                have := hnd.1
                rw [List.map_cons, List.nodup_cons] at this
                exact fun e => this.1 (List.mem_map.2 ⟨s, hs, e.trans hx0⟩)
              have n3 : slp (x :: xs) t = false := slp_no hno
              have n4 : slp xs t = false := slp_no fun s hs => hno s (by simp [hs])
              rw [n1, n2, n3, n4, updG_same, updG_ne _ _ hxt, hgt, pd_at hb, pd_at hb] at h2
              have n5 : pdG (ls x.t.toNat) (gs x.t.toNat) = 1 := by rw [pdG, x1, x2]; rfl
              rw [n5] at h2
              have n6 : pdN (some true) 3 (rgZ [0, r1, r2, r3, 0, 0, 0, 0] 3) = 0 := rfl
              have n7 : pdN (some true) 2 (rgZ [0, r1, r2, r3, 0, 0, 0, 0] 3) = 1 := rfl
              simp only [if_true, Bool.false_eq_true, if_false, n6, n7] at h2
              show v ≤ ((rsum n fun s => if slp xs s = true then 0 else pdG (ls s) (updG gs t ⟨j, ⟨3, [0, r1, r2, r3, 0, 0, 0, 0], false⟩⟩ s) : Nat) : Int)
              omega
            · rw [updG_ne _ _ h3, slp, List.any_cons, show (x.t == (s : Int)) = false from beq_eq_false_iff_ne.2 (by omega), Bool.false_or]
              exact Nat.le_refl _
        · rw [pot_at hb, pot_at hb, hwk, List.length_tail]; simp [potN]; omega
        · rw [ea]; exact one_same hgt (by rw [hd_at hb, hd_at hb]; rfl) (.inl rfl) hO
      · skip
        have hi : insG ((ls t).map semB) ⟨j, ⟨3, [0, r1, r2, r3, 0, 0, 0, 0], false⟩⟩ = some ⟨16, 3, 2, 0, 0⟩ := ins_at hb _
        have hn : nextZ ⟨16, 3, 2, 0, 0⟩ ⟨3, [0, r1, r2, r3, 0, 0, 0, 0], false⟩ v = (⟨4, [0, r1, r2, r3, 0, 0, 0, 0], false⟩, v, .say 3 (IntKind.i64.wrap r2)) := rfl
        have ea := hal hi (by decide) hn
        have po := pot_out v (l := ls t) j [0, r1, r2, r3, 0, 0, 0, 0]
        have hjl := (List.getElem?_eq_some_iff.1 hb).1
        refine ⟨_, v, sem_plain h hc hk hgt hi (by decide) (d := 0) (g' := ⟨j + 1, ⟨0, [0, r1, r2, r3, 0, 0, 0, 0], false⟩⟩) hn (norm_out hb rfl) (fun _ => rfl) (next_G hb _ _ _) (by omega) (.inl ⟨rfl, rfl⟩) (by rw [gv_out, tk_out, gv_at hb, tk_at hb]; rfl) (by rw [pd_at hb]; show v + ((0 : Nat) : Int) ≤ _; omega) hfo (by rw [effE, List.length_append]; show _ + 1 + ((ls t).length - (j + 1)) = _ + ((ls t).length - j); omega) (by rw [pot_at hb]; show _ ≤ _ + 1 + 1; omega), fun hO => ?_⟩
        rw [ea]
        exact one_same hgt (by rw [hd_at hb]; show hdN (ls t)[j + 1]? 0 _ = _; have := (hO.1 t ht j).2 hb; cases h2 : (ls t)[j + 1]? with | none => rfl | some c => cases c with | false => rfl | true => exact absurd h2 this) (.inl rfl) hO
  · have hb : (ls t)[(ls t).length]? = none := List.getElem?_eq_none_iff.2 (Nat.le_refl _)
    have hi : insG ((ls t).map semB) ⟨(ls t).length, ⟨0, [0, r1, r2, r3, 0, 0, 0, 0], false⟩⟩ = some ⟨0, 0, 0, 0, 0⟩ := by
      rw [insG]
      simp
    have hn : nextZ ⟨0, 0, 0, 0, 0⟩ ⟨0, [0, r1, r2, r3, 0, 0, 0, 0], false⟩ v = (⟨1, [0, r1, r2, r3, 0, 0, 0, 0], true⟩, v, .no) := rfl
    have ea := hal hi (by decide) hn
    refine ⟨_, v, sem_plain h hc hk hgt hi (by decide) (d := 0) (g' := ⟨(ls t).length, ⟨1, [0, r1, r2, r3, 0, 0, 0, 0], true⟩⟩) hn (by rw [normG]; simp) (fun _ => rfl) ⟨_, _, _, rfl, .inl ⟨rfl, rfl⟩⟩ (by omega) (.inl ⟨rfl, rfl⟩) ?_ ?_ hfo rfl ?_, fun hO => ?_⟩
    · simp only [gvG, tkG, hb]; rfl
    · simp only [pdG, hb]; exact Int.le_refl _
    · simp only [potG, hb]; simp [potN]
    · rw [ea]; exact one_same hgt (by simp only [hdG, hb]; rfl) (.inl rfl) hO

end
end Go.Mac
