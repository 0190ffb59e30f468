/- Who is fair ends: blocks of picks, in each of which all are picked. -/
import Derived.Test.YtnhldphlkklfiaaGreatDoorQDanceBd
import Derived.Test.YtnhldphlkklfiaaGreatDoorQRunApp
import Derived.Test.YtnhldphlkklfiaaGreatDoorQFairAgain
open Go Go.Proofs Go.Mac
set_option maxRecDepth 100000
namespace Go.Mac

/-- One after the other. -/
def rangeI (n : Nat) : List Int := (List.range n).map fun i : Nat => (i : Int)

theorem rangeI_succ (n : Nat) : rangeI (n + 1) = rangeI n ++ [(n : Int)] := by rw [rangeI, List.range_succ, List.map_append]; rfl
theorem rangeI_len (n : Nat) : (rangeI n).length = n := by rw [rangeI, List.length_map, List.length_range]
theorem rangeI_get {n t : Nat} (h : t < n) : (rangeI n)[t]? = some (t : Int) := by rw [rangeI, List.getElem?_map, List.getElem?_range h]; rfl

/-- Any n of them, and then each. -/
def isBl (n : Nat) (b : List Int) : Prop := ∃ r : List Int, b = r ++ rangeI n ∧ r.length = n

def stM (t : Int) : MoveZ := ⟨t, false⟩

theorem runM_moves (m : MZ) (l : List Int) : (runM m l).2 = movesZ m (l.map stM) := by
  have : ∀ (l : List Int) (p : Nat × MZ), (l.foldl runS p).2 = movesZ p.2 (l.map stM) := fun l => by
    induction l with
    | nil => intro p; rfl
    | cons x l ih => intro p; rw [List.foldl_cons, ih, List.map_cons, movesZ, movesZ, List.foldl_cons]; rfl
  exact this l (0, m)

theorem moves_k : ∀ (l : List Int) (m : MZ), m.k ≤ (movesZ m (l.map stM)).k
  | [], _ => Nat.le_refl _
  | x :: l, m => by
    have h1 := moves_k l (stepZ m x).2
    have h2 : m.k ≤ (stepZ m x).2.k := by
      rcases stepZ_k2 m x with ⟨_, h⟩ | h <;> omega
    exact Nat.le_trans h2 h1

/-- Where nobody did anything nobody could. -/
theorem moves_still : ∀ (l : List Int) (m : MZ), WF m → (movesZ m (l.map stM)).k = m.k → movesZ m (l.map stM) = m ∧ ∀ t ∈ l, (stepZ m t).2 = m
  | [], m, _, _ => ⟨rfl, fun t h => by cases h⟩
  | x :: l, m, hw, h => by
    have e : movesZ m ((x :: l).map stM) = movesZ (stepZ m x).2 (l.map stM) := rfl
    rw [e] at h ⊢
    rcases step_or hw x with hs | ⟨s, rfl, hc, hk⟩
    · rw [hs] at h ⊢
      obtain ⟨h1, h2⟩ := moves_still l m hw h
      refine ⟨h1, fun t ht => ?_⟩
      rcases List.mem_cons.1 ht with rfl | ht
      · exact hs
      · exact h2 t ht
    · exfalso
      have h1 := moves_k l (stepZ m s).2
      have h2 := can_step hc hk
      omega

section
variable {n nc R : Nat} {P : Nat → List Pc} {I : (Nat → AT) → (Nat → Nat) → List Slp → Prop} {F : (Nat → AT) → (Nat → Nat) → List Slp → Nat} {b : Nat} {A : Nat → AT} {V : Nat → Nat} {m : MZ}

/-- In a block all are at their ends, or somebody went on. -/
theorem DI.block (hB : Bar n R P I F) (h : DI n nc R P I F b A V m) (hb : b < 20000) {l : List Int} (hl : ∀ t : Nat, t < n → (t : Int) ∈ l) :
    ∃ A' V', DI n nc R P I F b A' V' (movesZ m (l.map stM)) ∧ ((∀ t, t < n → (A' t).l = .ended) ∨ m.k + 1 ≤ (movesZ m (l.map stM)).k) := by
  by_cases hk : (movesZ m (l.map stM)).k = m.k
  · obtain ⟨h1, h2⟩ := moves_still l m h.abs.wf hk
    rw [h1]
    refine ⟨A, V, h, .inl ?_⟩
    refine hB.live A V _ h.inv fun t ht => ?_
    have hp := h.pot
    have hx := h.abs.ts t ht
    have hc : ¬ canZ m (t : Int) = true := fun hc => by
      have h3 := h2 t (hl t ht)
      have h4 := can_step hc (by omega)
      rw [h3] at h4
      omega
    by_cases hd : isEnd (A t).l = true
    · left
      cases hl : (A t).l <;> rw [hl] at hd <;> first | rfl | cases hd
    · right
      refine Classical.byContradiction fun hne => hc (can_in hx (show isEnd (A t).l = false by simpa using hd) fun s hs e => hne ⟨s, hs, e⟩)
  · have := moves_k l m
    obtain ⟨A', V', h', _⟩ := DI.steps hB (fun _ => False) (l.map stM) (fun x hx => by
      obtain ⟨t, _, rfl⟩ := List.mem_map.1 hx
      exact ⟨rfl, fun _ h => h.elim⟩) h
    exact ⟨A', V', h', .inr (by omega)⟩

theorem isBl.mem {l : List Int} (h : isBl n l) : ∀ t : Nat, t < n → (t : Int) ∈ l := fun t ht => by
  obtain ⟨r, rfl, _⟩ := h
  exact List.mem_append.2 (.inr (List.mem_of_getElem? (rangeI_get ht)))

theorem DI.blocks (hB : Bar n R P I F) (hb : b < 20000) : ∀ (bs : List (List Int)) {m : MZ} {A : Nat → AT} {V : Nat → Nat}, DI n nc R P I F b A V m → (∀ l ∈ bs, isBl n l) →
    ∃ A' V', DI n nc R P I F b A' V' (movesZ m (bs.flatten.map stM)) ∧ ((∀ t, t < n → (A' t).l = .ended) ∨ m.k + bs.length ≤ (movesZ m (bs.flatten.map stM)).k)
  | [], m, A, V, h, _ => ⟨A, V, h, .inr (Nat.le_refl _)⟩
  | l :: bs, m, A, V, h, hl => by
    have e : movesZ m ((l :: bs).flatten.map stM) = movesZ (movesZ m (l.map stM)) (bs.flatten.map stM) := by
      rw [List.flatten_cons, List.map_append, movesZ, movesZ, movesZ, List.foldl_append]
    rw [e]
    obtain ⟨A1, V1, h1, h2⟩ := h.block hB hb (hl l (List.mem_cons_self ..)).mem
    obtain ⟨A2, V2, h3, h4⟩ := DI.blocks hB hb bs h1 fun x hx => hl x (List.mem_cons_of_mem _ hx)
    refine ⟨A2, V2, h3, ?_⟩
    rcases h4 with h4 | h4
    · exact .inl h4
    rcases h2 with h2 | h2
    · cases hz : bs with
      | nil =>
        subst hz
        have hd : (movesZ m (l.map stM)) = (movesZ (movesZ m (l.map stM)) (([] : List (List Int)).flatten.map stM)) := rfl
        refine .inl fun t ht => ?_
        have g1 := h1.abs.ts t ht
        have g2 := h3.abs.ts t ht
        rw [← hd, g1] at g2
        have g3 := congrArg ThZ.dn (Option.some.inj g2)
        have g4 : isEnd (A1 t).l = isEnd (A2 t).l := g3
        rw [h2 t ht] at g4
        cases hl2 : (A2 t).l <;> rw [hl2] at g4 <;> first | rfl | cases g4
      | cons y ys =>
        left
        intro t ht
        by_cases hk : (movesZ (movesZ m (l.map stM)) (bs.flatten.map stM)).k = (movesZ m (l.map stM)).k
        · obtain ⟨e1, _⟩ := moves_still bs.flatten _ h1.abs.wf hk
          have g1 := h1.abs.ts t ht
          have g2 := h3.abs.ts t ht
          rw [e1, g1] at g2
          have g3 := congrArg ThZ.dn (Option.some.inj g2)
          have g4 : isEnd (A1 t).l = isEnd (A2 t).l := g3
          rw [h2 t ht] at g4
          cases hl2 : (A2 t).l <;> rw [hl2] at g4 <;> first | rfl | cases g4
        · exfalso
          apply hk
          have hno : ∀ (l' : List Int) (m' : MZ), (∀ t : Nat, canZ m' t = false) → WF m' → movesZ m' (l'.map stM) = m' := fun l' => by
            induction l' with
            | nil => intro m' _ _; rfl
            | cons x l' ih =>
              intro m' hc hw
              have : (stepZ m' x).2 = m' := by
                rcases step_or hw x with e | ⟨s, e, hs, _⟩
                · exact e
                · rw [hc s] at hs; cases hs
              show movesZ (stepZ m' x).2 (l'.map stM) = m'
              rw [this]
              exact ih m' hc hw
          rw [hno bs.flatten _ (fun s => ?_) h1.abs.wf]
          cases hc : canZ (movesZ m (l.map stM)) (s : Int) with
          | false => rfl
          | true =>
            obtain ⟨hs, hd, _⟩ := h1.abs.can hc
            rw [h2 s hs] at hd
            cases hd
    · right
      rw [List.length_cons]
      omega

end

theorem flat_at {L : Nat} : ∀ (bs : List (List Int)) (q r : Nat) (b : List Int), (∀ l ∈ bs, l.length = L) → bs[q]? = some b → r < L → bs.flatten[L * q + r]? = b[r]?
  | [], q, r, b, _, h, _ => by simp at h
  | l :: bs, 0, r, b, hl, h, hr => by
    simp at h; subst h
    rw [List.flatten_cons, Nat.mul_zero, Nat.zero_add, List.getElem?_append_left (by rw [hl l (List.mem_cons_self ..)]; exact hr)]
  | l :: bs, q + 1, r, b, hl, h, hr => by
    have h0 := hl l (List.mem_cons_self ..)
    rw [List.flatten_cons, List.getElem?_append_right (by rw [h0, Nat.mul_succ]; omega), h0, show L * (q + 1) + r - L = L * q + r by rw [Nat.mul_succ]; omega]
    exact flat_at bs q r b (fun x hx => hl x (List.mem_cons_of_mem _ hx)) (by simpa using h) hr

theorem flat_len {L : Nat} : ∀ (bs : List (List Int)), (∀ l ∈ bs, l.length = L) → bs.flatten.length = L * bs.length
  | [], _ => by simp
  | l :: bs, h => by
    rw [List.flatten_cons, List.length_append, h l (List.mem_cons_self ..), flat_len bs fun x hx => h x (List.mem_cons_of_mem _ hx), List.length_cons, Nat.mul_succ]
    omega

theorem isBl.len {n : Nat} {l : List Int} (h : isBl n l) : l.length = 2 * n := by
  obtain ⟨r, rfl, hr⟩ := h
  rw [List.length_append, hr, rangeI_len]
  omega

/-- Blocks are fair. -/
theorem blocks_fair {n : Nat} {w : Int} (hn : 1 ≤ n ∧ n ≤ 16) (hw : (2 * n : Int) ≤ w) {bs : List (List Int)} (h : ∀ l ∈ bs, isBl n l) : Fair bs.flatten n w := by
  refine ⟨by omega, by omega, by omega, fun i hi t ht => ?_⟩
  have ht : t < n := by omega
  rw [gap_iff]
  by_cases hit : i < n + t
  · left; omega
  right
  have hlen := flat_len bs fun l hl => (h l hl).len
  have hdm := Nat.div_add_mod (i - n - t) (2 * n)
  have hmod := Nat.mod_lt (i - n - t) (show 0 < 2 * n by omega)
  have hq : (i - n - t) / (2 * n) < bs.length := by
    refine Nat.div_lt_of_lt_mul ?_
    omega
  generalize (i - n - t) / (2 * n) = q at hdm hq
  obtain ⟨b, hb⟩ : ∃ b, bs[q]? = some b := ⟨_, List.getElem?_eq_getElem hq⟩
  refine ⟨2 * n * q + (n + t), by omega, by omega, ?_⟩
  rw [flat_at bs q (n + t) b (fun l hl => (h l hl).len) hb (by omega)]
  obtain ⟨r, rfl, hr⟩ := h b (List.mem_of_getElem? hb)
  rw [List.getElem?_append_right (by omega), hr, show n + t - n = t by omega]
  exact rangeI_get ht

/-- Small barriers have few instructions. -/
theorem size5 : ((List.range 6).all fun k => (List.range 5).all fun m => decide (sizeW (m + 1) (ofL (kindL (k + 1) (m + 1))) ≤ 300)) = true := by decide +kernel

theorem dance_fair {k n R : Nat} (hk : 1 ≤ k ∧ k ≤ 6) (hn : 1 ≤ n ∧ n ≤ 16) (hR : R ≤ 6) {bs : List (List Int)} (h : ∀ l ∈ bs, isBl n l) (hl : 3 * sizeT k n n * (R + 1) + 1 ≤ bs.length) :
    allZ (runM (danceM k n R) bs.flatten).2 = true ∧ WF (runM (danceM k n R) bs.flatten).2 := by
  have h1 := (cost_le hk hn)
  have h2 : R * costK k n ≤ 6 * costK k n := Nat.mul_le_mul_right _ hR
  have h3 : R * costK k n ≤ R * (3 * sizeT k n n) := Nat.mul_le_mul_left _ h1.1
  have h5 := size_ge k n n
  have hB := kind_bar R hk hn
  obtain ⟨A, V, hD, he⟩ := DI.blocks hB (by omega) bs (dance_begin hk hn (show R ≤ 20 by omega)) h
  rw [runM_moves]
  refine ⟨?_, hD.abs.wf⟩
  rcases he with he | he
  · exact (hD.ended hB hn.1 he).1
  · exfalso
    have hp := hD.pot
    have e : 3 * sizeT k n n * (R + 1) = R * (3 * sizeT k n n) + 3 * sizeT k n n := by rw [Nat.mul_add, Nat.mul_one, Nat.mul_comm _ R]
    have : (danceM k n R).k = 0 := rfl
    omega

end Go.Mac
