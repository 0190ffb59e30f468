/- Children first; from above. -/
import Derived.Test.YtnhldphlkklfiaaGreatDoorQKept
open Go Go.Proofs Go.Mac
set_option maxRecDepth 100000
namespace Go.Mac

/-- Behind waiting for a cell one tells. -/
theorem net_mono {n R : Nat} {P : Nat → List Pc} {wr : Nat → Option (Nat × Nat)} {A : Nat → AT} {V : Nat → Nat} {ss : List Slp} (hI : NI n R P wr A V ss) {t q i c d s : Nat} (ht : t < n) (hq : (P t)[q]? = some (.tl c s)) (hi : i < q) (hd : (P t)[i]? = some (.aw d)) : V c ≤ V d := by
  have h1 := hI.cell t ht q c s hq
  have h2 := hI.await t ht i d hd
  rw [tg] at h1 h2
  split at h1
  · rw [if_pos (by omega)] at h2
    omega
  · split at h2 <;> omega

def upB (k fan n : Nat) : Bool := (List.range n).all fun id => id == 0 || match whereT id (kindP k n id) 0 with
  | none => false
  | some q => (List.range n).all fun c => !decide (fan * id + 1 ≤ c ∧ c ≤ fan * id + fan) || ((kindP k n id).take q).any (isAw c)

theorem up3 : ((List.range 16).all fun m => upB 3 2 (m + 1)) = true := by decide +kernel
theorem up6 : ((List.range 16).all fun m => upB 6 4 (m + 1)) = true := by decide +kernel

/-- Who tells that it came, and a child of it. -/
def upN (fan n c d : Nat) : Prop := 1 ≤ c ∧ c < n ∧ fan * c + 1 ≤ d ∧ d ≤ fan * c + fan ∧ d < n

theorem up_mono {k fan n R : Nat} {wr : Nat → Option (Nat × Nat)} {A : Nat → AT} {V : Nat → Nat} {ss : List Slp} (hb : upB k fan n = true) (hI : NI n R (PP k n) wr A V ss) : ∀ c d, upN fan n c d → V c ≤ V d := by
  rintro c d ⟨h1, h2, h3, h4, h5⟩
  have h6 := all_range hb h2
  rw [Bool.or_eq_true] at h6
  rcases h6 with h6 | h6
  · have : c = 0 := by simpa using h6
    omega
  · split at h6
    · cases h6
    · rename_i q hq
      obtain ⟨q', s, e, hq⟩ := whereT_ok _ _ _ hq
      have e : q = q' := by omega
      subst e
      have h7 := all_range h6 h5
      rw [decide_eq_true (show fan * c + 1 ≤ d ∧ d ≤ fan * c + fan from ⟨h3, h4⟩)] at h7
      have h7 : ((kindP k n c).take q).any (isAw d) = true := by simpa using h7
      obtain ⟨x, hx, hxd⟩ := List.any_eq_true.1 h7
      obtain ⟨i, hi⟩ := List.mem_iff_getElem?.1 hx
      have hiq : i < q := by
        have := (List.getElem?_eq_some_iff.1 hi).1
        rw [List.length_take] at this
        omega
      rw [List.getElem?_take_of_lt hiq] at hi
      rw [← PP_get h2] at hi hq
      cases x with
      | aw d' =>
        have : d' = d := by simpa [isAw] using hxd
        subst this
        exact net_mono hI h2 hq hiq hi
      | _ => cases hxd

/-- In Static and Mcs. -/
theorem dance_up {z n R : Nat} (hn : 1 ≤ n ∧ n ≤ 16) (hR : R ≤ 6) (l : List MoveZ) (hl : l.length ≤ 900) (k : Nat) (fan : Nat) (hk : k = if z = 0 then 3 else 6) (hf : fan = if z = 0 then 2 else 4) :
    (∀ c, 1 ≤ c → c < n → (stN c (finish (movesZ (danceM k n R) l)).al).length = R) ∧
    ∀ c d, upN fan n c d → ∀ (r : Nat) (x y : Int), (stN c (finish (movesZ (danceM k n R) l)).al)[r]? = some x → (stN d (finish (movesZ (danceM k n R) l)).al)[r]? = some y → y < x := by
  have hk36 : (k = 3 ∧ fan = 2) ∨ (k = 6 ∧ fan = 4) := by
    by_cases h0 : z = 0
    · rw [if_pos h0] at hk hf; exact .inl ⟨hk, hf⟩
    · rw [if_neg h0] at hk hf; exact .inr ⟨hk, hf⟩
  have hk6 : 1 ≤ k ∧ k ≤ 6 := by omega
  have hb : upB k fan n = true := by
    rcases hk36 with ⟨rfl, rfl⟩ | ⟨rfl, rfl⟩
    · exact of16 (f := fun n => upB 3 2 n) up3 hn
    · exact of16 (f := fun n => upB 6 4 n) up6 hn
  have hg : ∀ c, GK k c := fun c h => by omega
  obtain ⟨h1, h2⟩ := dance_stores (up := upN fan n) hk6 hn hR (fun c d h => ⟨hg c, hg d, fun e => by
    subst e
    obtain ⟨_, _, h3, _, _⟩ := h
    rcases hk36 with ⟨_, rfl⟩ | ⟨_, rfl⟩ <;> omega⟩) (fun A V ss hI => by
    rw [kindI, if_neg (by omega), if_neg (by omega)] at hI
    exact up_mono hb hI) l hl
  refine ⟨fun c h3 h4 => ?_, h2⟩
  have hc : c < kindC k n := by
    rcases hk36 with ⟨rfl, _⟩ | ⟨rfl, _⟩
    · show c < n + 1; omega
    · show c < 2 * n; omega
  rw [h1 c (hg c) hc, endV, if_neg (by omega), if_pos]
  have h6 := all_range hb h4
  rw [Bool.or_eq_true] at h6
  rcases h6 with h6 | h6
  · have : c = 0 := by simpa using h6
    omega
  · split at h6
    · cases h6
    · rename_i q hq
      obtain ⟨q', s, e, hq⟩ := whereT_ok _ _ _ hq
      rw [← PP_get h4] at hq
      rw [(kind_netOk (by omega) hn).tl c h4 q' c s hq]
      rfl

/-- A node's gate, and that of the node above. -/
def dnN (n c d : Nat) : Prop := ∃ v, v < firstN n (hgtN n) ∧ parV n (n + v) < firstN n (hgtN n) ∧ c = 2 * v + 1 ∧ d = 2 * parV n (n + v) + 1

/-- In Combine. -/
theorem dance_down {n R : Nat} (hn : 1 ≤ n ∧ n ≤ 16) (hR : R ≤ 6) (l : List MoveZ) (hl : l.length ≤ 900) :
    (∀ v, v < firstN n (hgtN n) → (stN (2 * v + 1) (finish (movesZ (danceM 2 n R) l)).al).length = R) ∧
    ∀ c d, dnN n c d → ∀ (r : Nat) (x y : Int), (stN c (finish (movesZ (danceM 2 n R) l)).al)[r]? = some x → (stN d (finish (movesZ (danceM 2 n R) l)).al)[r]? = some y → y < x := by
  have hT := tree_two hn
  obtain ⟨h1, h2⟩ := dance_stores (k := 2) (up := dnN n) (by decide) hn hR (fun c d ⟨v, h1, h2, h3, h4⟩ => ⟨fun _ => by omega, fun _ => by omega, fun e => by
    have := hT.down v h1 h2
    rw [show parV n (n + v) = v by omega] at this
    omega⟩) (fun A V ss hI c d ⟨v, h1, h2, h3, h4⟩ => by
    obtain ⟨b, hI⟩ : ∃ b, TI n (firstN n (hgtN n)) R (hgtN n) (PP 2 n) (parV n) (sizeV n) (nodeN n) b A V _ := hI
    rw [h3, h4]
    exact hI.mono v h1 h2) l hl
  refine ⟨fun v hv => ?_, h2⟩
  rw [h1 _ (fun _ => by omega) (by show _ < 2 * firstN n (hgtN n); omega), endV, if_pos (by decide), if_neg (by omega)]

/-- How nodes lie, level by level. -/
theorem down_ok : ((List.range 16).all fun m => (List.range 4).all fun j => !decide (1 < cntN (m + 1) j) || decide (j < 3) && (List.range (cntN (m + 1) j)).all fun i => decide (firstN (m + 1) j + i < firstN (m + 1) (hgtN (m + 1))) && parV (m + 1) (m + 1 + (firstN (m + 1) j + i)) == firstN (m + 1) (j + 1) + i / 2 && decide (firstN (m + 1) (j + 1) + i / 2 < firstN (m + 1) (hgtN (m + 1)))) = true := by decide +kernel
theorem down_top : ((List.range 16).all fun m => (List.range 4).all fun j => decide (1 < cntN (m + 1) j) || !(j == 0 || decide (1 < cntN (m + 1) (j - 1))) || decide (firstN (m + 1) j < firstN (m + 1) (hgtN (m + 1)))) = true := by decide +kernel

/-- How often gates were opened in the end. -/
theorem dance_gates {k n R : Nat} (hk : 1 ≤ k ∧ k ≤ 3) (hn : 1 ≤ n ∧ n ≤ 16) (hR : R ≤ 6) (l : List MoveZ) (hl : l.length ≤ 900) (c : Nat) (hc : if k = 3 then c = n else c % 2 = 1 ∧ c < kindC k n) : (stN c (finish (movesZ (danceM k n R) l)).al).length = R := by
  obtain ⟨h1, _⟩ := dance_stores (k := k) (up := fun _ _ => False) (by omega) hn hR (fun _ _ h => h.elim) (fun _ _ _ _ _ _ h => h.elim) l hl
  by_cases h3 : k = 3
  · subst h3
    rw [if_pos rfl] at hc
    subst hc
    rw [h1 c (fun h => absurd h (by decide)) (by show c < c + 1; omega), endV, if_neg (by decide), if_pos]
    have h2 := all_range static_told (t := c - 1) (by omega)
    have h4 := all_range h2 (t := c) (by omega)
    rw [show c - 1 + 1 = c by omega] at h4
    have h5 : (wrL c (kindL 3 c) 0).isSome = decide (c ≠ 0) := by simpa using h4
    rw [h5]
    exact decide_eq_true (by omega)
  · rw [if_neg h3] at hc
    rw [h1 c (fun _ => hc.1) hc.2, endV, if_pos (by omega), if_neg (by omega)]

end Go.Mac
