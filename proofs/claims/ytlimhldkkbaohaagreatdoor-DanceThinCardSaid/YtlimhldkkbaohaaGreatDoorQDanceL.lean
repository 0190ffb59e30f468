/- Barriers of any kind: nobody goes ahead of all who come; somebody can always go on; at last all go. -/
import Derived.Test.YtlimhldkkbaohaaGreatDoorGDanceH
import Derived.Test.YtlimhldkkbaohaaGreatDoorGCount
open Go Go.Proofs Go.Mac
set_option maxRecDepth 100000
namespace Go.Mac

theorem cm_le {R : Nat} {a : AT} (h : RegOk R a) : cmA a ≤ R := by
  obtain ⟨r, x, e, l⟩ := a
  cases l with
  | p0 => show r - 1 ≤ R; have : r = 0 := h.1; omega
  | p1 => show r - 1 ≤ R; have : r = 1 := h.1; omega
  | head => show r - 1 ≤ R; have : r ≤ R + 1 := h.2.1; omega
  | halt => show r - 1 ≤ R; have : r = R + 1 := h.1; omega
  | came => show r - 1 ≤ R; have : r ≤ R := h.2.1; omega
  | pc k o => exact h.2.1
  | gone => exact h.2.1
  | plus => exact h.2.1
  | jump => show r - 1 ≤ R; have : r ≤ R + 1 := h.2.1; omega
  | ended => show r - 1 ≤ R; have : r = R + 1 := h.1; omega

section
variable {n nc R : Nat} {P : Nat → List Pc} {I : (Nat → AT) → (Nat → Nat) → List Slp → Prop} {F : (Nat → AT) → (Nat → Nat) → List Slp → Nat} {b : Nat} {A : Nat → AT} {V : Nat → Nat} {m : MZ}

theorem DI.order (hB : Bar n R P I F) (h : DI n nc R P I F b A V m) (hn : 1 ≤ n) : checkZ n m.el = none ∧ allG n m.el ≤ anyR m.el ∧ anyR m.el ≤ allG n m.el + 2 ∧ anyR m.el ≤ R ∧ 0 ≤ allG n m.el := by
  obtain ⟨h1, h2, h3⟩ := rounds_apart hn h.ev.ok
  refine ⟨h.ev.ok, h1, h2, ?_, h3⟩
  obtain ⟨hj, _⟩ := check_inv h.ev.ok
  rcases hj.top with e | ⟨u, hu, e⟩
  · omega
  · rw [h.ev.c, List.getD_eq_getElem?_getD, List.getElem?_map, List.getElem?_range hu] at e
    have e : (cmA (A u) : Int) = anyR m.el := e
    have := cm_le (hB.reg A V _ h.inv u hu)
    omega

theorem DI.goes (hB : Bar n R P I F) (h : DI n nc R P I F b A V m) : stuckZ m = false ∧ ((List.range n).any fun t => canZ m (t : Int)) = !allZ m := by
  have hall : allZ m = true → ∀ t, t < n → canZ m (t : Int) = false := fun ha t ht => by
    have h1 := h.abs.ts t ht
    have h2 := List.all_eq_true.1 ha _ (List.mem_of_getElem? h1)
    rw [canZ, Int.toNat_natCast, thZ_get h1, h2]
    simp
  have hnone : allZ m = false → ∃ t, t < n ∧ canZ m (t : Int) = true := fun ha => by
    refine Classical.byContradiction fun hne => ?_
    have := hB.live A V m.ss h.inv fun t ht => by
      have hx := h.abs.ts t ht
      have hc : ¬ canZ m (t : Int) = true := fun hc => hne ⟨t, ht, hc⟩
      by_cases hd : isEnd (A t).l = true
      · left
        cases hl : (A t).l <;> rw [hl] at hd <;> first | rfl | cases hd
      · right
        refine Classical.byContradiction fun hne2 => hc (can_in hx (show isEnd (A t).l = false by simpa using hd) fun s hs e => hne2 ⟨s, hs, e⟩)
    have hall2 : allZ m = true := by
      rw [allZ, List.all_eq_true]
      intro x hx
      obtain ⟨t, ht⟩ := List.mem_iff_getElem?.1 hx
      have htl := (List.getElem?_eq_some_iff.1 ht).1
      rw [h.abs.ln] at htl
      rw [h.abs.ts t htl] at ht
      obtain rfl := Option.some.inj ht
      show isEnd (A t).l = true
      rw [this t htl]
      rfl
    rw [ha] at hall2
    cases hall2
  cases ha : allZ m with
  | true =>
    refine ⟨by rw [stuckZ, ha]; simp, ?_⟩
    rw [Bool.not_true, List.any_eq_false]
    intro t ht
    rw [hall ha t (List.mem_range.1 ht)]
    decide
  | false =>
    obtain ⟨t, ht, hc⟩ := hnone ha
    refine ⟨?_, ?_⟩
    · rw [stuckZ, ha]
      have : ((List.range m.ts.length).all fun t => !canZ m (t : Int)) = false := by
        rw [List.all_eq_false]
        exact ⟨t, List.mem_range.2 (by rw [h.abs.ln]; exact ht), by rw [hc]; decide⟩
      rw [this]
      rfl
    · rw [Bool.not_false, List.any_eq_true]
      exact ⟨t, List.mem_range.2 ht, hc⟩

end

end Go.Mac
