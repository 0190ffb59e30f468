/- Where what one knows is spread: who comes to which cell. -/
import Derived.Test.YtnhldphlkklfiaaDoorQCrowds
import Derived.Test.YtnhldphlkklfiaaDoorQMaps
open Go Go.Proofs Go.Mac
set_option maxRecDepth 100000
namespace Go.Mac

def whereA (c : Nat) : List Pc → Nat → Option Nat
  | [], _ => none
  | x :: xs, k => if isAw c x = true then some k else whereA c xs (k + 1)

/-- Who waits at a cell, and with which piece: of lists of pieces, from a thread on. -/
def rdL (c : Nat) : List (List Pc) → Nat → Option (Nat × Nat)
  | [], _ => none
  | Q :: l, t => match whereA c Q 0 with
    | some k => some (t, k)
    | none => rdL c l (t + 1)

/-- Each cell has one who waits there, and one who tells it. -/
def thinB (n : Nat) : Bool :=
  (List.range n).all (fun t => (List.range (kindP 4 n t).length).all fun k => match (kindP 4 n t)[k]? with
    | some (.aw c) => rdL c (kindL 4 n) 0 == some (t, k)
    | some (.tl c _) => wrL c (kindL 4 n) 0 == some (t, k)
    | _ => false) &&
  (List.range (kindC 4 n)).all fun c => (match rdL c (kindL 4 n) 0 with
    | some (t, k) => decide (t < n) && (match (kindP 4 n t)[k]? with | some x => isAw c x | none => false)
    | none => false) && (wrL c (kindL 4 n) 0).isSome

theorem thin4 : ((List.range 16).all fun m => thinB (m + 1)) = true := by decide +kernel

structure ThinOk (n : Nat) (rd wr : Nat → Option (Nat × Nat)) : Prop where
  aw : ∀ t, t < n → ∀ (k c : Nat), (PP 4 n t)[k]? = some (.aw c) → rd c = some (t, k)
  tl : ∀ t, t < n → ∀ (k c s : Nat), (PP 4 n t)[k]? = some (.tl c s) → wr c = some (t, k)
  only : ∀ t, t < n → ∀ x ∈ PP 4 n t, (∃ c, x = .aw c) ∨ ∃ c s, x = .tl c s
  cell : ∀ c, c < kindC 4 n → (∃ t k, t < n ∧ rd c = some (t, k) ∧ (PP 4 n t)[k]? = some (.aw c)) ∧ (wr c).isSome = true

theorem thin_ok {n : Nat} (hn : 1 ≤ n ∧ n ≤ 16) : ThinOk n (fun c => rdL c (kindL 4 n) 0) (fun c => wrL c (kindL 4 n) 0) := by
  have hb := of16 (f := thinB) thin4 hn
  simp only [thinB, Bool.and_eq_true] at hb
  obtain ⟨h1, h2⟩ := hb
  have key := fun t (ht : t < n) (k : Nat) (x : Pc) (hx : (PP 4 n t)[k]? = some x) => by
    rw [PP_get ht] at hx
    have h3 := all_range (all_range h1 ht) (List.getElem?_eq_some_iff.1 hx).1
    rw [hx] at h3
    exact h3
  refine ⟨fun t ht k c h => ?_, fun t ht k c s h => ?_, fun t ht x hx => ?_, fun c hc => ?_⟩
  · have := key t ht k _ h
    simpa using this
  · have := key t ht k _ h
    simpa using this
  · obtain ⟨k, hk⟩ := List.mem_iff_getElem?.1 hx
    have := key t ht k x hk
    cases x with
    | aw c => exact .inl ⟨c, rfl⟩
    | tl c s => exact .inr ⟨c, s, rfl⟩
    | up c s j => cases this
    | dn c s => cases this
  · have h3 := all_range h2 hc
    simp only [Bool.and_eq_true] at h3
    obtain ⟨h3, h4⟩ := h3
    refine ⟨?_, h4⟩
    split at h3
    · rename_i t k hr
      simp only [Bool.and_eq_true, decide_eq_true_eq] at h3
      obtain ⟨h5, h6⟩ := h3
      refine ⟨t, k, h5, hr, ?_⟩
      rw [PP_get h5]
      split at h6
      · rename_i x hx
        rw [hx]
        cases x with
        | aw d =>
          have : d = c := by simpa [isAw] using h6
          rw [this]
        | _ => cases h6
      · cases h6
    · cases h3

/-- In how many rounds, at least, a cell was looked at. -/
def ltg (a : AT) (k : Nat) : Nat :=
  match a.l with
  | .pc k' o => if k < k' ∨ (k = k' ∧ 1 ≤ o) then a.r else a.r - 1
  | .gone => a.r
  | .plus => a.r
  | _ => a.r - 1

/-- Who did what; and who has looked, did. -/
structure ThI (n : Nat) (rd wr : Nat → Option (Nat × Nat)) (A : Nat → AT) (al : List ActZ) : Prop where
  who : ∀ a ∈ al, ∃ (c t k : Nat), a.c = c ∧ a.t = t ∧ ((a.o = 6 ∧ rd c = some (t, k)) ∨ (a.o = 7 ∧ wr c = some (t, k)))
  look : ∀ t, t < n → ∀ (k c : Nat), (PP 4 n t)[k]? = some (.aw c) → 1 ≤ ltg (A t) k → ∃ a ∈ al, a.o = 6 ∧ a.c = c

theorem ltg_nx {Q : List Pc} {j k r x e : Nat} (hj : j ≤ Q.length) (hk : k < Q.length) : ltg ⟨r, x, e, nxL Q j⟩ k = if k < j then r else r - 1 := by
  rw [nxL]
  split
  · show (if k < j ∨ (k = j ∧ 1 ≤ 0) then r else r - 1) = _
    by_cases h : k < j
    · rw [if_pos h, if_pos (.inl h)]
    · rw [if_neg h, if_neg (by omega)]
  · rename_i h
    rw [if_pos (by omega)]
    rfl

/-- Who has looked now had looked, or does. -/
theorem ltg_step {R : Nat} {Q : List Pc} {V : Nat → Nat} {a : AT} (ho : ∀ x ∈ Q, (∃ c, x = .aw c) ∨ ∃ c s, x = .tl c s) (hr : RegOk R a) (hlo : LocOk Q a.l) (hd : isEnd a.l = false) {k c : Nat} (hk : Q[k]? = some (.aw c)) (h : 1 ≤ ltg (stA R Q V a).1 k) :
    1 ≤ ltg a k ∨ ∃ x y, (stA R Q V a).2 = .act 6 c x y := by
  have hkl := (List.getElem?_eq_some_iff.1 hk).1
  obtain ⟨r, x, e, l⟩ := a
  cases l with
  | p0 =>
    have h : 1 ≤ 1 - 1 := h
    omega
  | p1 => exact .inl h
  | head =>
    left
    have h : 1 ≤ ltg ⟨r, x, e, if r < e then .came else .halt⟩ k := h
    split at h <;> exact h
  | halt => exact .inl h
  | came =>
    left
    have h : 1 ≤ ltg ⟨r, x, e, nxL Q 0⟩ k := h
    rw [ltg_nx (Nat.zero_le _) hkl, if_neg (Nat.not_lt_zero _)] at h
    exact h
  | gone => exact .inl h
  | plus =>
    left
    have h : 1 ≤ r + 1 - 1 := h
    show 1 ≤ r
    omega
  | jump => exact .inl h
  | ended => cases hd
  | pc k' o =>
    have hr1 : 1 ≤ r := hr.1
    obtain ⟨z, hz, hoz⟩ := hlo
    have hkl' := (List.getElem?_eq_some_iff.1 hz).1
    have hltg : ∀ o' (f : NL), f = .pc k' o' → ∀ r' x' e', ltg ⟨r', x', e', f⟩ k = if k < k' ∨ (k = k' ∧ 1 ≤ o') then r' else r' - 1 := fun o' f hf r' x' e' => by subst hf; rfl
    rw [stA_pc hz] at h ⊢
    rcases ho z (List.mem_of_getElem? hz) with ⟨d, rfl⟩ | ⟨d, s, rfl⟩
    · have hcase : o = 0 ∨ o = 1 ∨ o = 2 ∨ o = 3 ∨ o = 4 := by
        have : o < 5 := hoz
        omega
      rcases hcase with rfl | rfl | rfl | rfl | rfl
      · by_cases e1 : k = k'
        · subst e1
          rw [hk] at hz
          obtain rfl : c = d := by injection hz with hz; injection hz
          exact .inr ⟨_, _, rfl⟩
        · left
          have h : 1 ≤ (if k < k' ∨ (k = k' ∧ 1 ≤ 1) then r else r - 1) := h
          show 1 ≤ (if k < k' ∨ (k = k' ∧ 1 ≤ 0) then r else r - 1)
          by_cases e2 : k < k'
          · rw [if_pos (.inl e2)]; exact hr1
          · rw [if_neg (by omega)] at h; rw [if_neg (by omega)]; exact h
      · left
        show 1 ≤ (if k < k' ∨ (k = k' ∧ 1 ≤ 1) then r else r - 1)
        have h : 1 ≤ ltg ⟨r, x, e, if x < r then .pc k' 3 else .pc k' 2⟩ k := h
        split at h
        · have h : 1 ≤ (if k < k' ∨ (k = k' ∧ 1 ≤ 3) then r else r - 1) := h
          simpa using h
        · have h : 1 ≤ (if k < k' ∨ (k = k' ∧ 1 ≤ 2) then r else r - 1) := h
          simpa using h
      · left
        show 1 ≤ (if k < k' ∨ (k = k' ∧ 1 ≤ 2) then r else r - 1)
        have h : 1 ≤ ltg ⟨r, x, e, nxL Q (k' + 1)⟩ k := h
        rw [ltg_nx hkl' hkl] at h
        by_cases e2 : k < k' + 1
        · rw [if_pos (by omega)]; exact hr1
        · rw [if_neg e2] at h; rw [if_neg (by omega)]; exact h
      · left
        show 1 ≤ (if k < k' ∨ (k = k' ∧ 1 ≤ 3) then r else r - 1)
        have h : 1 ≤ (if k < k' ∨ (k = k' ∧ 1 ≤ 4) then r else r - 1) := h
        simpa using h
      · left
        show 1 ≤ (if k < k' ∨ (k = k' ∧ 1 ≤ 4) then r else r - 1)
        have h : 1 ≤ (if k < k' ∨ (k = k' ∧ 1 ≤ 0) then r else r - 1) := h
        by_cases e2 : k < k'
        · rw [if_pos (.inl e2)]; exact hr1
        · rw [if_neg (by omega)] at h
          split
          · exact hr1
          · exact h
    · have hne : k ≠ k' := fun e1 => by
        subst e1
        rw [hk] at hz
        cases hz
      rcases o with _ | o
      · left
        show 1 ≤ (if k < k' ∨ (k = k' ∧ 1 ≤ 0) then r else r - 1)
        have h : 1 ≤ (if k < k' ∨ (k = k' ∧ 1 ≤ 1) then r else r - 1) := h
        by_cases e2 : k < k'
        · rw [if_pos (.inl e2)]; exact hr1
        · rw [if_neg (by omega)] at h; rw [if_neg (by omega)]; exact h
      · left
        show 1 ≤ (if k < k' ∨ (k = k' ∧ 1 ≤ o + 1) then r else r - 1)
        have h : 1 ≤ ltg ⟨r, x, e, nxL Q (k' + 1)⟩ k := h
        rw [ltg_nx hkl' hkl] at h
        by_cases e2 : k < k'
        · rw [if_pos (.inl e2)]; exact hr1
        · rw [if_neg (by omega)] at h; rw [if_neg (by omega)]; exact h

theorem kept_thin {n R : Nat} {rd wr : Nat → Option (Nat × Nat)} (hT : ThinOk n rd wr) : Kept n R (PP 4 n) (kindI 4 n R) fun A _ al _ => ThI n rd wr A al := by
  intro A V ss al k' t hI hJ ht hlo hd _ _
  have hI : NI n R (PP 4 n) (fun c => wrL c (kindL 4 n) 0) A V ss := hI
  have hreg := hI.reg t ht
  have hmem : ∀ a, a ∈ al → a ∈ efA (k' + 1) t al (stA R (PP 4 n t) V (A t)).2 := fun a ha => by
    cases (stA R (PP 4 n t) V (A t)).2 with
    | act o c x y => exact List.mem_append.2 (.inl ha)
    | _ => exact ha
  refine ⟨fun a ha => ?_, fun u hu k c hk hl => ?_⟩
  · cases he : (stA R (PP 4 n t) V (A t)).2 with
    | act o c x y =>
      rw [he] at ha
      rcases List.mem_append.1 (show a ∈ al ++ [_] from ha) with ha | ha
      · exact hJ.who a ha
      · rw [List.mem_singleton.1 ha]
        obtain ⟨b, hA⟩ : ∃ b, A t = b := ⟨_, rfl⟩
        obtain ⟨r, xx, e, l⟩ := b
        rw [hA] at hlo he
        cases l with
        | pc k o' =>
          obtain ⟨z, hz, hoz⟩ := hlo
          rw [stA_pc hz] at he
          rcases hT.only t ht z (List.mem_of_getElem? hz) with ⟨d, rfl⟩ | ⟨d, s, rfl⟩
          · obtain ⟨h1, h2, _⟩ := aw_act he
            subst h2
            exact ⟨c, t, k, rfl, rfl, .inl ⟨h1, hT.aw t ht k c hz⟩⟩
          · rcases o' with _ | o'
            · injection he with h1 h2 h3 h4
              subst h2
              exact ⟨d, t, k, rfl, rfl, .inr ⟨h1.symm, hT.tl t ht k d s hz⟩⟩
            · cases he
        | _ => cases he
    | no => rw [he] at ha; exact hJ.who a ha
    | slp c => rw [he] at ha; exact hJ.who a ha
    | wk c s => rw [he] at ha; exact hJ.who a ha
    | say b x => rw [he] at ha; exact hJ.who a ha
  · by_cases e : u = t
    · subst e
      rw [updA_same] at hl
      rcases ltg_step (hT.only u ht) hreg hlo hd hk hl with h | ⟨x, y, h⟩
      · obtain ⟨a, ha, h1⟩ := hJ.look u hu k c hk h
        exact ⟨a, hmem a ha, h1⟩
      · rw [h]
        exact ⟨⟨((k' + 1 : Nat) : Int), u, 6, c, x, y⟩, List.mem_append.2 (.inr (List.mem_singleton.2 rfl)), rfl, rfl⟩
    · rw [updA_ne _ _ e] at hl
      obtain ⟨a, ha, h1⟩ := hJ.look u hu k c hk hl
      exact ⟨a, hmem a ha, h1⟩

/-- Who comes to which cell, in the end. -/
theorem spread_thin {n R : Nat} (hn : 1 ≤ n ∧ n ≤ 16) (hR : R ≤ 6) (l : List MoveZ) (hl : l.length ≤ 900) :
    (∀ a ∈ (finish (movesZ (danceM 4 n R) l)).al, ∃ (c t k : Nat), a.c = c ∧ a.t = t ∧ ((a.o = 6 ∧ rdL c (kindL 4 n) 0 = some (t, k)) ∨ (a.o = 7 ∧ wrL c (kindL 4 n) 0 = some (t, k)))) ∧
    (∀ a ∈ (finish (movesZ (danceM 4 n R) l)).al, 0 ≤ a.c ∧ a.c < kindC 4 n) ∧
    (1 ≤ R → ∀ c : Nat, c < kindC 4 n → (∃ a ∈ (finish (movesZ (danceM 4 n R) l)).al, a.o = 6 ∧ a.c = c) ∧ ∃ a ∈ (finish (movesZ (danceM 4 n R) l)).al, a.o = 7 ∧ a.c = c) := by
  have hk : 1 ≤ (4 : Nat) ∧ 4 ≤ 6 := by decide
  have hT := thin_ok hn
  have h0 : ThI n (fun c => rdL c (kindL 4 n) 0) (fun c => wrL c (kindL 4 n) 0) (fun _ => ⟨0, 0, 0, .p0⟩) [] := ⟨fun a ha => (by cases ha), fun t ht k c hc h => by
    have h : 1 ≤ 0 - 1 := h
    omega⟩
  obtain ⟨A, V, h, j, he⟩ := dance_finishJ hk hn hR (kept_thin hT) h0 l hl
  refine ⟨j.who, ?_, fun hR1 c hc => ⟨?_, ?_⟩⟩
  · obtain ⟨A2, V2, _, j2, _⟩ := dance_finishJ hk hn hR (kept_cells hk hn) (fun a ha => by cases ha) l hl
    exact j2
  · obtain ⟨⟨t, k, ht, _, hk2⟩, _⟩ := hT.cell c hc
    refine j.look t ht k c hk2 ?_
    have hr := (kind_bar R hk hn).reg A V _ h.inv t ht
    rw [RegOk, he t ht] at hr
    rw [ltg, he t ht]
    show 1 ≤ (A t).r - 1
    omega
  · obtain ⟨s1, _⟩ := dance_stores (k := 4) (up := fun _ _ => False) hk hn hR (fun _ _ h => h.elim) (fun _ _ _ _ _ _ h => h.elim) l hl
    have h1 := s1 c (fun h => absurd h (by decide)) hc
    rw [endV, if_neg (by decide), if_pos (hT.cell c hc).2] at h1
    cases hz : stN c (finish (movesZ (danceM 4 n R) l)).al with
    | nil => rw [hz] at h1; simp at h1; omega
    | cons w ws =>
      have hw : w ∈ stN c (finish (movesZ (danceM 4 n R) l)).al := by rw [hz]; exact List.mem_cons_self ..
      rw [stN, List.mem_filterMap] at hw
      obtain ⟨a, ha, h2⟩ := hw
      split at h2
      · rename_i h3
        exact ⟨a, ha, h3⟩
      · cases h2

end Go.Mac
