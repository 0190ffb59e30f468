/- Who is alone never waits. -/
import Derived.Test.YtnhldphlkklfiaaGreatDoorQDanceBd
import Derived.Test.YtnhldphlkklfiaaGreatDoorQStill
open Go Go.Proofs Go.Mac
set_option maxRecDepth 100000
namespace Go.Mac

section
variable {n nc R : Nat} {P : Nat → List Pc} {I : (Nat → AT) → (Nat → Nat) → List Slp → Prop} {F : (Nat → AT) → (Nat → Nat) → List Slp → Nat} {b : Nat} {A : Nat → AT} {V : Nat → Nat} {m : MZ}

theorem DI.all_end (h : DI n nc R P I F b A V m) (ha : allZ m = true) : ∀ t, t < n → (A t).l = .ended := fun t ht => by
  have h1 := h.abs.ts t ht
  have h2 : isEnd (A t).l = true := List.all_eq_true.1 ha _ (List.mem_of_getElem? h1)
  cases hl : (A t).l <;> rw [hl] at h2 <;> first | rfl | cases h2

theorem DI.one_can (hB : Bar 1 R P I F) (h : DI 1 nc R P I F b A V m) (hd : (thZ m 0).dn = false) : noT m.ss 0 ∧ canZ m (0 : Nat) = true := by
  have hx := h.abs.ts 0 (by decide)
  have hd2 : isEnd (A 0).l = false := by rw [thZ_get hx] at hd; exact hd
  have hno : noT m.ss 0 := fun s hs e => by
    have := hB.live A V m.ss h.inv (fun t ht => by
      obtain rfl : t = 0 := by omega
      exact .inr ⟨s, hs, e⟩) 0 (by decide)
    rw [this] at hd2
    cases hd2
  exact ⟨hno, can_in hx hd2 hno⟩

theorem DI.one_all (h : DI 1 nc R P I F b A V m) (hd : (thZ m 0).dn = true) : allZ m = true := by
  have hx := h.abs.ts 0 (by decide)
  rw [thZ_get hx] at hd
  rw [allZ, List.all_eq_true]
  intro x hx2
  obtain ⟨t, ht⟩ := List.mem_iff_getElem?.1 hx2
  have htl := (List.getElem?_eq_some_iff.1 ht).1
  rw [h.abs.ln] at htl
  obtain rfl : t = 0 := by omega
  rw [hx] at ht
  obtain rfl := Option.some.inj ht
  exact hd

/-- Alone, so many steps. -/
def aloneM (m : MZ) (i : Nat) : MZ := movesZ m (List.replicate i ⟨0, false⟩)

theorem aloneM_succ (m : MZ) (i : Nat) : aloneM m (i + 1) = (stepZ (aloneM m i) 0).2 := by
  rw [aloneM, List.replicate_succ', movesZ, List.foldl_append]
  rfl

theorem DI.alone (hB : Bar 1 R P I F) (hb : b < 20000) (h : DI 1 nc R P I F b A V m) (hk : m.k = 0) : ∀ i, ∃ A' V', DI 1 nc R P I F b A' V' (aloneM m i) ∧ ((aloneM m i).k = i ∨ allZ (aloneM m i) = true)
  | 0 => ⟨A, V, h, .inl hk⟩
  | i + 1 => by
    obtain ⟨A1, V1, h1, h2⟩ := DI.alone hB hb h hk i
    rw [aloneM_succ]
    have hp := h1.pot
    cases hd : (thZ (aloneM m i) 0).dn with
    | true =>
      have ha := h1.one_all hd
      have he : (stepZ (aloneM m i) 0).2 = aloneM m i := by
        rcases step_or h1.abs.wf 0 with e | ⟨s, e, hc, _⟩
        · exact e
        · obtain rfl : s = 0 := by omega
          rw [can_allS ha] at hc
          cases hc
      rw [he]
      exact ⟨A1, V1, h1, .inr ha⟩
    | false =>
      obtain ⟨hno, hc⟩ := h1.one_can hB hd
      have hk1 : (aloneM m i).k < 20000 := by omega
      obtain ⟨A2, V2, h3⟩ := h1.go hB hc hk1
      refine ⟨A2, V2, h3, ?_⟩
      rcases h2 with h2 | h2
      · exact .inl ((can_step hc hk1).trans (by rw [h2]))
      · rw [can_allS h2] at hc
        cases hc

theorem DI.alone_end (hB : Bar 1 R P I F) (hb : b < 20000) (h : DI 1 nc R P I F b A V m) (hk : m.k = 0) {T : Nat} (hT : b ≤ T) : allZ (aloneM m T) = true ∧ (aloneM m T).el.length = 2 * R := by
  obtain ⟨A1, V1, h1, h2⟩ := h.alone hB hb hk T
  have ha : allZ (aloneM m T) = true := by
    rcases h2 with h2 | h2
    · cases hd : (thZ (aloneM m T) 0).dn with
      | true => exact h1.one_all hd
      | false =>
        obtain ⟨hno, hc⟩ := h1.one_can hB hd
        obtain ⟨ht, hd3, hno3⟩ := h1.abs.can hc
        obtain ⟨_, i2⟩ := hB.go A1 V1 _ 0 h1.inv (by decide) (h1.abs.lo 0 (by decide)) hd3 hno3
        have hp := h1.pot
        omega
    · exact h2
  refine ⟨ha, ?_⟩
  obtain ⟨_, _, _, _, _, e⟩ := h1.ended hB (by decide) (h1.all_end ha)
  rw [e]

end

theorem kind {K : AV → List Nat → List PO → Prop} (k : Int) (h : K (i64 (1 + pickZ k 6)) [] []) : Does Tryz.prog 47 [i64 k] [] K := by
  have h1 := pickZ_lt k (n := 6) (by decide)
  rw [← wrap_i64 (1 + pickZ k 6) (by omega) (by omega)] at h
  refine does Tryz.func47 rfl (by decide) ?_
  change Does Tryz.prog 22 _ _ _
  refine Does.alone 0 (pick k 6 (by decide) ?_)
  exact h

end Go.Mac
