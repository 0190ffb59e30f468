/- Who is alone never waits. -/
import Derived.Test.YtnhldphlkklfiaaDoorQDanceBd
import Derived.Test.YtnhldphlkklfiaaDoorQStill
open Go Go.Proofs Go.Mac
set_option maxRecDepth 100000
namespace Go.Mac

section
variable {n nc R : Nat} {P : Nat → List Pc} {I : (Nat → AT) → (Nat → Nat) → List Slp → Prop} {F : (Nat → AT) → (Nat → Nat) → List Slp → Nat} {b : Nat} {A : Nat → AT} {V : Nat → Nat} {m : MZ}

theorem DI.all_end (h : DI n nc R P I F b A V m) (ha : allZ m = true) : ∀ t, t < n → (A t).l = .ended := fun t ht => by
  have h1 := h.abs.ts t ht
  have h2 : isEnd (A t).l = true := List.all_eq_true.1 ha _ (List.mem_of_getElem? h1)
  cases hl : (A t).l <;> rw [hl] at h2 <;> first | rfl | cases h2

theorem DI.one_can (hB : Bar 1 R P I F) (h : DI 1 nc R P I F b A V m) (hd : (thZ m 0).dn = false) : noT m.ss 0 ∧ canZ m (0 : Nat) = true := by
  have hx := h.abs.ts 0 (by decide)
  have hd2 : isEnd (A 0).l = false := by rw [thZ_get hx] at hd; exact hd
  have hno : noT m.ss 0 := fun s hs e => by
    have := hB.live A V m.ss h.inv (fun t ht => by
      obtain rfl : t = 0 := by omega
      exact .inr ⟨s, hs, e⟩) 0 (by decide)
    rw [this] at hd2
    cases hd2
  exact ⟨hno, can_in hx hd2 hno⟩

theorem DI.one_all (h : DI 1 nc R P I F b A V m) (hd : (thZ m 0).dn = true) : allZ m = true := by
  have hx := h.abs.ts 0 (by decide)
  rw [thZ_get hx] at hd
  rw [allZ, List.all_eq_true]
  intro x hx2
  obtain ⟨t, ht⟩ := List.mem_iff_getElem?.1 hx2
  have htl := (List.getElem?_eq_some_iff.1 ht).1
  rw [h.abs.ln] at htl
  obtain rfl : t = 0 := by omega
  rw [hx] at ht
  obtain rfl := Option.some.inj ht
  exact hd

/-- Alone, so many steps. -/
def aloneM (m : MZ) (i : Nat) : MZ := movesZ m (List.replicate i ⟨0, false⟩)

theorem aloneM_succ (m : MZ) (i : Nat) : aloneM m (i + 1) = (stepZ (aloneM m i) 0).2 := by
  rw [aloneM, List.replicate_succ', movesZ, List.foldl_append]
  rfl

theorem DI.alone (hB : Bar 1 R P I F) (hb : b < 20000) (h : DI 1 nc R P I F b A V m) (hk : m.k = 0) : ∀ i, ∃ A' V', DI 1 nc R P I F b A' V' (aloneM m i) ∧ ((aloneM m i).k = i ∨ allZ (aloneM m i) = true)
  | 0 => ⟨A, V, h, .inl hk⟩
  | i + 1 => by
    obtain ⟨A1, V1, h1, h2⟩ := DI.alone hB hb h hk i
    rw [aloneM_succ]
    have hp := h1.pot
    cases hd : (thZ (aloneM m i) 0).dn with
    | true =>
      have ha := h1.one_all hd
      have he : (stepZ (aloneM m i) 0).2 = aloneM m i := by
        rcases step_or h1.abs.wf 0 with e | ⟨s, e, hc, _⟩
        · exact e
        · obtain rfl : s = 0 := by omega
          rw [can_allS ha] at hc
          cases hc
      rw [he]
      exact ⟨A1, V1, h1, .inr ha⟩
    | false =>
      obtain ⟨hno, hc⟩ := h1.one_can hB hd
      have hk1 : (aloneM m i).k < 20000 := by omega
      obtain ⟨A2, V2, h3⟩ := h1.go hB hc hk1
      refine ⟨A2, V2, h3, ?_⟩
      rcases h2 with h2 | h2
      · exact .inl ((can_step hc hk1).trans (by rw [h2]))
      · rw [can_allS h2] at hc
        cases hc

theorem DI.alone_end (hB : Bar 1 R P I F) (hb : b < 20000) (h : DI 1 nc R P I F b A V m) (hk : m.k = 0) {T : Nat} (hT : b ≤ T) : allZ (aloneM m T) = true ∧ (aloneM m T).el.length = 2 * R := by
  obtain ⟨A1, V1, h1, h2⟩ := h.alone hB hb hk T
  have ha : allZ (aloneM m T) = true := by
    rcases h2 with h2 | h2
    · cases hd : (thZ (aloneM m T) 0).dn with
      | true => exact h1.one_all hd
      | false =>
        obtain ⟨hno, hc⟩ := h1.one_can hB hd
        obtain ⟨ht, hd3, hno3⟩ := h1.abs.can hc
        obtain ⟨_, i2⟩ := hB.go A1 V1 _ 0 h1.inv (by decide) (h1.abs.lo 0 (by decide)) hd3 hno3
        have hp := h1.pot
        omega
    · exact h2
  refine ⟨ha, ?_⟩
  obtain ⟨_, _, _, _, _, e⟩ := h1.ended hB (by decide) (h1.all_end ha)
  rw [e]

end

theorem kind {K : AV → List Nat → List PO → Prop} (k : Int) (h : K (i64 (1 + pickZ k 6)) [] []) : Does Tryd.prog 26 [i64 k] [] K := by
  have h1 := pickZ_lt k (n := 6) (by decide)
  rw [← wrap_i64 (1 + pickZ k 6) (by omega) (by omega)] at h
  refine does Tryd.func26 rfl (by decide) ?_
  change Does Tryd.prog 15 _ _ _
  refine Does.alone 0 (pick k 6 (by decide) ?_)
  exact h

theorem danceAlone (k : Int) (_hk : -9223372036854775808 ≤ k ∧ k ≤ 9223372036854775807) (R : Int) (_hR : -9223372036854775808 ≤ R ∧ R ≤ 9223372036854775807) :
    Does Tryd.prog 10 [i64 k, i64 R] [rtH] fun v _ _ => v = bl true := by
  refine does Tryd.func10 rfl (by decide) ?_
  change Does Tryd.prog 13 _ _ _
  refine Does.on 1 [0] _ _ (danced ?_)
  change Does Tryd.prog 26 _ _ _
  refine Does.alone 1 (kind k ?_)
  change Does Tryd.prog 15 _ _ _
  refine Does.alone 1 (pick R 7 (by decide) ?_)
  obtain ⟨k, hk, hk6⟩ := pick6 k
  obtain ⟨R, hR, hR6⟩ := pick7 R
  rw [hk, hR]
  have hn16 : 1 ≤ (1 : Nat) ∧ 1 ≤ 16 := by decide
  have hB := kind_bar (k := k) (n := 1) R hk6 hn16
  have hD := dance_begin (k := k) (n := 1) (R := R) hk6 hn16 (by omega)
  obtain ⟨h1, h2⟩ := cost_le (k := k) (n := 1) hk6 hn16
  have h3 : R * costK k 1 ≤ 6 * costK k 1 := Nat.mul_le_mul_right _ hR6
  have h4 : R * costK k 1 ≤ R * (3 * sizeT k 1 1) := Nat.mul_le_mul_left _ h1
  have h5 := size_ge k 1 1
  have hs := size_le hk6 hn16 1 (Nat.le_refl 1)
  have hmul : 3 * sizeT k 1 1 * (R + 1) = R * (3 * sizeT k 1 1) + 3 * sizeT k 1 1 := by rw [Nat.mul_add, Nat.mul_one, Nat.mul_comm _ R]
  have hal := hD.alone hB (by omega) rfl
  have hend := hD.alone_end hB (by omega) rfl (T := 3 * sizeT k 1 1 * (R + 1)) (by omega)
  clear hD
  change Does Tryd.prog 16 _ _ _
  refine Does.alone 1 (floor0 (k := k) (n := 1) (R := R) (kindAll hk6 hn16 (by omega)) fun v hv hw => ?_)
  change Does Tryd.prog 23 _ _ _
  refine Does.alone 10 (size (k := k) (n := 1) (R := R) hk6 hn16 (by omega) ?_)
  generalize sizeT k 1 1 = S at *
  have hm : 3 * S * (R + 1) ≤ 3 * (16 * 10008) * 7 := Nat.mul_le_mul (by omega) (by omega)
  have e : IntKind.i64.wrap (IntKind.i64.wrap (3 * (S : Int)) * IntKind.i64.wrap ((R : Int) + 1)) = ((3 * S * (R + 1) : Nat) : Int) := by
    rw [wrap_i64 (3 * (S : Int)) (by omega) (by omega), wrap_i64 ((R : Int) + 1) (by omega) (by omega), show (3 * (S : Int)) * ((R : Int) + 1) = ((3 * S * (R + 1) : Nat) : Int) by push_cast; rfl, wrap_i64 _ (by omega) (by omega)]
  generalize 3 * S * (R + 1) = T at *
  refine SS.loop (fun p : Nat × VZ => p.1 ≤ T ∧ okV p.2) (fun p => [(1, i64 R), (5, cv (.ptr 1 0)), (28, i64 T), (29, i64 p.1)])
    (fun p => [rtH] ++ machS 1 (aloneM (danceM k 1 R) p.1) p.2) (fun p => T - p.1) [7, 8, 9]
    (At.mk' [1, 5, 28, 29] (0, v) ⟨by simp, hv⟩ ⟨?_, rfl⟩ rfl rfl (by simp) (by simp) (by decide)) ?_
  · rw [e]
    rfl
  rintro ⟨i, v1⟩ ⟨hik, hv1⟩
  change i ≤ T at hik
  change okV v1 at hv1
  obtain ⟨A1, V1, hD1, _⟩ := hal i
  have hw1 := hD1.abs.wf
  have hln := hD1.abs.ln
  have hone := hD1.one_can hB
  clear hD1
  refine S_r ?_
  refine brc_intro (fun hlt => ?_) (fun hlt => ?_)
  · have hlt : i < T := by
      have := of_decide_eq_true hlt
      have : (i : Int) < (T : Int) := this
      omega
    have hup : IntKind.i64.wrap ((i : Int) + 1) = ((i + 1 : Nat) : Int) := wrap_i64 (i + 1) (by omega) (by omega)
    have hnx := aloneM_succ (danceM k 1 R) i
    refine SS.inlR ?_
    change Does Tryd.prog 27 _ _ _
    refine Does.on 10 [1, 2, 3, 4, 5, 6, 7, 8, 9] _ _ (coreAt (m := aloneM (danceM k 1 R) i) (v := v1) hw1 (0 : Int) (fun h => absurd ⟨Int.le_refl 0, by omega⟩ h) (fun _ _ => ?_) fun _ hd => ?_)
    · change Does Tryd.prog 21 _ _ _
      refine Does.on 10 [1, 2, 3, 4, 5, 6, 7, 8, 9] _ _ (coreStep (m := aloneM (danceM k 1 R) i) (v := v1) hw1 hv1 (0 : Int) (fun _ v' hv' => ?_) fun _ v' hv' => ?_)
      all_goals
        rw [← hnx]
        refine At.mk' [1, 5, 28, 29] (i + 1, v') ⟨⟨hlt, hv'⟩, by show T - (i + 1) < T - i; omega⟩ ⟨?_, rfl⟩ rfl rfl (by simp) (by simp) (by decide)
        rw [hup]
        rfl
    · have hc : cellZ (aloneM (danceM k 1 R) i) (0 : Int) = -1 := cellZ_no (hone hd).1
      rw [hc]
      change Does Tryd.prog 21 _ _ _
      refine Does.on 10 [1, 2, 3, 4, 5, 6, 7, 8, 9] _ _ (coreStep (m := aloneM (danceM k 1 R) i) (v := v1) hw1 hv1 (0 : Int) (fun _ v' hv' => ?_) fun _ v' hv' => ?_)
      all_goals
        rw [← hnx]
        refine At.mk' [1, 5, 28, 29] (i + 1, v') ⟨⟨hlt, hv'⟩, by show T - (i + 1) < T - i; omega⟩ ⟨?_, rfl⟩ rfl rfl (by simp) (by simp) (by decide)
        rw [hup]
        rfl
  · have hlt : ¬ (i : Int) < (T : Int) := of_decide_eq_false hlt
    obtain rfl : i = T := by omega
    obtain ⟨o1, o2⟩ := hend
    have hel := hw1.el
    have hkz := hw1.k
    change Does Tryd.prog 20 _ _ _
    refine Does.on 10 [1, 2, 3, 4, 5, 6, 7, 8, 9] _ _ (coreEnds (m := aloneM (danceM k 1 R) i) (v := v1) hw1 ?_)
    rw [o1]
    change Does Tryd.prog 17 _ _ _
    refine Does.on 10 [1, 2, 3, 4, 5, 6, 7, 8, 9] _ _ (coreEvents (m := aloneM (danceM k 1 R) i) (v := v1) (by omega) ?_)
    refine fin ?_
    rw [o2, wrap_i64 (2 * (R : Int)) (by omega) (by omega)]
    simp

end Go.Mac
