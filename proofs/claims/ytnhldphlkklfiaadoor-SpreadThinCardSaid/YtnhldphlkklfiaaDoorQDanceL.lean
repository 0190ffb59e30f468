/- Barriers of any kind: nobody goes ahead of all who come; somebody can always go on; at last all go. -/
import Derived.Test.YtnhldphlkklfiaaDoorQDanceC3
import Derived.Test.YtnhldphlkklfiaaDoorQLeaves
open Go Go.Proofs Go.Mac
set_option maxRecDepth 100000
namespace Go.Mac

theorem cm_le {R : Nat} {a : AT} (h : RegOk R a) : cmA a ≤ R := by
  obtain ⟨r, x, e, l⟩ := a
  cases l with
  | p0 => show r - 1 ≤ R; have : r = 0 := h.1; omega
  | p1 => show r - 1 ≤ R; have : r = 1 := h.1; omega
  | head => show r - 1 ≤ R; have : r ≤ R + 1 := h.2.1; omega
  | halt => show r - 1 ≤ R; have : r = R + 1 := h.1; omega
  | came => show r - 1 ≤ R; have : r ≤ R := h.2.1; omega
  | pc k o => exact h.2.1
  | gone => exact h.2.1
  | plus => exact h.2.1
  | jump => show r - 1 ≤ R; have : r ≤ R + 1 := h.2.1; omega
  | ended => show r - 1 ≤ R; have : r = R + 1 := h.1; omega

section
variable {n nc R : Nat} {P : Nat → List Pc} {I : (Nat → AT) → (Nat → Nat) → List Slp → Prop} {F : (Nat → AT) → (Nat → Nat) → List Slp → Nat} {b : Nat} {A : Nat → AT} {V : Nat → Nat} {m : MZ}

theorem DI.order (hB : Bar n R P I F) (h : DI n nc R P I F b A V m) (hn : 1 ≤ n) : checkZ n m.el = none ∧ allG n m.el ≤ anyR m.el ∧ anyR m.el ≤ allG n m.el + 2 ∧ anyR m.el ≤ R ∧ 0 ≤ allG n m.el := by
  obtain ⟨h1, h2, h3⟩ := rounds_apart hn h.ev.ok
  refine ⟨h.ev.ok, h1, h2, ?_, h3⟩
  obtain ⟨hj, _⟩ := check_inv h.ev.ok
  rcases hj.top with e | ⟨u, hu, e⟩
  · omega
  · rw [h.ev.c, List.getD_eq_getElem?_getD, List.getElem?_map, List.getElem?_range hu] at e
    have e : (cmA (A u) : Int) = anyR m.el := e
    have := cm_le (hB.reg A V _ h.inv u hu)
    omega

theorem DI.goes (hB : Bar n R P I F) (h : DI n nc R P I F b A V m) : stuckZ m = false ∧ ((List.range n).any fun t => canZ m (t : Int)) = !allZ m := by
  have hall : allZ m = true → ∀ t, t < n → canZ m (t : Int) = false := fun ha t ht => by
    have h1 := h.abs.ts t ht
    have h2 := List.all_eq_true.1 ha _ (List.mem_of_getElem? h1)
    rw [canZ, Int.toNat_natCast, thZ_get h1, h2]
    simp
  have hnone : allZ m = false → ∃ t, t < n ∧ canZ m (t : Int) = true := fun ha => by
    refine Classical.byContradiction fun hne => ?_
    have := hB.live A V m.ss h.inv fun t ht => by
      have hx := h.abs.ts t ht
      have hc : ¬ canZ m (t : Int) = true := fun hc => hne ⟨t, ht, hc⟩
      by_cases hd : isEnd (A t).l = true
      · left
        cases hl : (A t).l <;> rw [hl] at hd <;> first | rfl | cases hd
      · right
        refine Classical.byContradiction fun hne2 => hc (can_in hx (show isEnd (A t).l = false by simpa using hd) fun s hs e => hne2 ⟨s, hs, e⟩)
    have hall2 : allZ m = true := by
      rw [allZ, List.all_eq_true]
      intro x hx
      obtain ⟨t, ht⟩ := List.mem_iff_getElem?.1 hx
      have htl := (List.getElem?_eq_some_iff.1 ht).1
      rw [h.abs.ln] at htl
      rw [h.abs.ts t htl] at ht
      obtain rfl := Option.some.inj ht
      show isEnd (A t).l = true
      rw [this t htl]
      rfl
    rw [ha] at hall2
    cases hall2
  cases ha : allZ m with
  | true =>
    refine ⟨by rw [stuckZ, ha]; simp, ?_⟩
    rw [Bool.not_true, List.any_eq_false]
    intro t ht
    rw [hall ha t (List.mem_range.1 ht)]
    decide
  | false =>
    obtain ⟨t, ht, hc⟩ := hnone ha
    refine ⟨?_, ?_⟩
    · rw [stuckZ, ha]
      have : ((List.range m.ts.length).all fun t => !canZ m (t : Int)) = false := by
        rw [List.all_eq_false]
        exact ⟨t, List.mem_range.2 (by rw [h.abs.ln]; exact ht), by rw [hc]; decide⟩
      rw [this]
      rfl
    · rw [Bool.not_false, List.any_eq_true]
      exact ⟨t, List.mem_range.2 ht, hc⟩

end

theorem danceOrder (k : Int) (_hk : -9223372036854775808 ≤ k ∧ k ≤ 9223372036854775807) (n : Int) (_hn : -9223372036854775808 ≤ n ∧ n ≤ 9223372036854775807) (R : Int) (_hR : -9223372036854775808 ≤ R ∧ R ≤ 9223372036854775807) (ms : List MoveZ) :
    Does Tryd.prog 4 [i64 k, i64 n, i64 R, cv (.slc 0 0 ms.length none false)] [.rows true 2 (ms.map rowMove), rtH] fun v _ _ => v = bl true := by
  refine does Tryd.func4 rfl (by decide) ?_
  change Does Tryd.prog 13 _ _ _
  refine Does.on 2 [1] _ _ (danced ?_)
  refine brc_intro (fun _ => rfl) (fun h => ?_)
  have hms : ms.length ≤ 900 := by
    have := of_decide_eq_false h
    omega
  change Does Tryd.prog 14 _ _ _
  refine Does.alone 2 (ball k n R ?_)
  obtain ⟨k, hk, hk6⟩ := pick6 k
  obtain ⟨n, hn, hn16⟩ := pick16b n
  obtain ⟨R, hR, hR6⟩ := pick7 R
  rw [hk, hn, hR]
  obtain ⟨z, hz⟩ : ∃ z, movesZ (danceM k n R) (ms.map (pickM n)) = z := ⟨_, rfl⟩
  obtain ⟨A, V, hD⟩ := dance_moves hk6 hn16 (show R ≤ 20 by omega) (ms.map (pickM n))
  rw [hz] at hD
  obtain ⟨o1, o2, o3, o4, o5⟩ := hD.order (kind_bar R hk6 hn16) hn16.1
  change Does Tryd.prog 16 _ _ _
  refine Does.on 2 [0] _ _ (floor (k := k) (n := n) (R := R) (ms := ms) (z := z) (kindAll hk6 hn16 (by omega)) rfl (by omega) hz fun v hv hw => ?_)
  have hel := hw.el
  have hkz := hw.k
  clear hD
  change Does Tryd.prog 17 _ _ _
  refine Does.on 11 [2, 3, 4, 5, 6, 7, 8, 9, 10] _ _ (coreEvents (m := z) (v := v) (by omega) ?_)
  change Does Tryd.prog 18 _ _ _
  refine Does.on 12 [11] _ _ (rounds (all := z.el) (l := z.el) (k := z.el.length) (n := n) (ro := false) rfl (fun i _ => rfl) hn16 (by omega) (fun _ => ?_) fun e i h => absurd (o1.symm.trans h) (by simp))
  refine brc_intro (fun _ => ?_) (fun h => absurd o2 (of_decide_eq_false h))
  have hw2 : IntKind.i64.wrap (allG n z.el + 2) = allG n z.el + 2 := wrap_i64 _ (by omega) (by omega)
  refine brc_intro (fun _ => ?_) (fun h => ?_)
  · refine fin ?_
    exact decide_eq_true o4
  · exfalso
    have h : ¬ anyR z.el ≤ IntKind.i64.wrap (allG n z.el + 2) := of_decide_eq_false h
    rw [hw2] at h
    exact h o3

theorem danceGoes (k : Int) (_hk : -9223372036854775808 ≤ k ∧ k ≤ 9223372036854775807) (n : Int) (_hn : -9223372036854775808 ≤ n ∧ n ≤ 9223372036854775807) (R : Int) (_hR : -9223372036854775808 ≤ R ∧ R ≤ 9223372036854775807) (ms : List MoveZ) :
    Does Tryd.prog 7 [i64 k, i64 n, i64 R, cv (.slc 0 0 ms.length none false)] [.rows true 2 (ms.map rowMove), rtH] fun v _ _ => v = bl true := by
  refine does Tryd.func7 rfl (by decide) ?_
  change Does Tryd.prog 13 _ _ _
  refine Does.on 2 [1] _ _ (danced ?_)
  refine brc_intro (fun _ => rfl) (fun h => ?_)
  have hms : ms.length ≤ 900 := by
    have := of_decide_eq_false h
    omega
  change Does Tryd.prog 14 _ _ _
  refine Does.alone 2 (ball k n R ?_)
  obtain ⟨k, hk, hk6⟩ := pick6 k
  obtain ⟨n, hn, hn16⟩ := pick16b n
  obtain ⟨R, hR, hR6⟩ := pick7 R
  rw [hk, hn, hR]
  obtain ⟨z, hz⟩ : ∃ z, movesZ (danceM k n R) (ms.map (pickM n)) = z := ⟨_, rfl⟩
  obtain ⟨A, V, hD⟩ := dance_moves hk6 hn16 (show R ≤ 20 by omega) (ms.map (pickM n))
  rw [hz] at hD
  obtain ⟨o1, o2⟩ := hD.goes (kind_bar R hk6 hn16)
  change Does Tryd.prog 16 _ _ _
  refine Does.on 2 [0] _ _ (floor (k := k) (n := n) (R := R) (ms := ms) (z := z) (kindAll hk6 hn16 (by omega)) rfl (by omega) hz fun v hv hw => ?_)
  clear hD
  change Does Tryd.prog 20 _ _ _
  refine Does.on 11 [2, 3, 4, 5, 6, 7, 8, 9, 10] _ _ (coreEnds (m := z) (v := v) hw ?_)
  rw [o1]
  refine SS.loop (fun i : Nat => i ≤ n) (fun i => [(9, cv (.ptr 2 0)), (10, bl (allZ z)), (11, bl false), (12, bl ((List.range i).any fun t => canZ z (t : Int))), (39, i64 n), (40, i64 i)])
    (fun _ => [.rows true 2 (ms.map rowMove), rtH] ++ machS 2 z v) (fun i => n - i) []
    (At.mk' [9, 10, 11, 12, 39, 40] 0 (Nat.zero_le _) ⟨rfl, rfl⟩ rfl rfl (by simp) (by simp) (by simp)) ?_
  intro i hi
  change i ≤ n at hi
  refine S_r ?_
  refine brc_intro (fun hlt => ?_) (fun hlt => ?_)
  · have hlt : i < n := by
      have := of_decide_eq_true hlt
      have : (i : Int) < (n : Int) := this
      omega
    have e2 : ((List.range (i + 1)).any fun t => canZ z (t : Int)) = (((List.range i).any fun t => canZ z (t : Int)) || canZ z (i : Int)) := by rw [List.range_succ]; simp
    refine brc_intro (fun ha => ?_) (fun ha => ?_)
    · refine At.mk' [9, 10, 11, 12, 39, 40] (i + 1) ⟨hlt, by omega⟩ ⟨?_, rfl⟩ rfl rfl (by simp) (by simp) (by simp)
      rw [wrap_i64 (i + 1) (by omega) (by omega), e2, show ((List.range i).any fun t => canZ z (t : Int)) = true from ha]
      rfl
    · change Does Tryd.prog 24 _ _ _
      refine Does.on 11 [2, 3, 4, 5, 6, 7, 8, 9, 10] _ _ (coreCan (m := z) (v := v) hw (i : Int) ?_)
      refine At.mk' [9, 10, 11, 12, 39, 40] (i + 1) ⟨hlt, by omega⟩ ⟨?_, rfl⟩ rfl rfl (by simp) (by simp) (by simp)
      rw [wrap_i64 (i + 1) (by omega) (by omega), e2, show ((List.range i).any fun t => canZ z (t : Int)) = false from ha, Bool.false_or]
      rfl
  · have hlt : ¬ (i : Int) < (n : Int) := of_decide_eq_false hlt
    obtain rfl : i = n := by omega
    rw [o2]
    refine fin ?_
    cases allZ z <;> rfl

theorem danceEnds (k : Int) (_hk : -9223372036854775808 ≤ k ∧ k ≤ 9223372036854775807) (n : Int) (_hn : -9223372036854775808 ≤ n ∧ n ≤ 9223372036854775807) (R : Int) (_hR : -9223372036854775808 ≤ R ∧ R ≤ 9223372036854775807) (ms : List MoveZ) :
    Does Tryd.prog 5 [i64 k, i64 n, i64 R, cv (.slc 0 0 ms.length none false)] [.rows true 2 (ms.map rowMove), rtH] fun v _ _ => v = bl true := by
  refine does Tryd.func5 rfl (by decide) ?_
  change Does Tryd.prog 13 _ _ _
  refine Does.on 2 [1] _ _ (danced ?_)
  refine brc_intro (fun _ => rfl) (fun h => ?_)
  have hms : ms.length ≤ 900 := by
    have := of_decide_eq_false h
    omega
  change Does Tryd.prog 14 _ _ _
  refine Does.alone 2 (ball k n R ?_)
  obtain ⟨k, hk, hk6⟩ := pick6 k
  obtain ⟨n, hn, hn16⟩ := pick16b n
  obtain ⟨R, hR, hR6⟩ := pick7 R
  rw [hk, hn, hR]
  obtain ⟨z, hz⟩ : ∃ z, movesZ (danceM k n R) (ms.map (pickM n)) = z := ⟨_, rfl⟩
  obtain ⟨A, V, hD, he⟩ := dance_finish hk6 hn16 hR6 (ms.map (pickM n)) (by rw [List.length_map]; exact hms)
  rw [hz] at hD
  obtain ⟨o1, o2, o3, o4, o5, o6⟩ := hD.ended (kind_bar R hk6 hn16) hn16.1 he
  change Does Tryd.prog 16 _ _ _
  refine Does.on 2 [0] _ _ (floor (k := k) (n := n) (R := R) (ms := ms) (z := z) (kindAll hk6 hn16 (by omega)) rfl (by omega) hz fun v hv hw => ?_)
  clear hD he
  change Does Tryd.prog 19 _ _ _
  refine Does.on 11 [2, 3, 4, 5, 6, 7, 8, 9, 10] _ _ (fairFinish (m := z) (v := v) hw hv fun v1 c hv1 hw1 => ?_)
  generalize finish z = z1 at o1 o2 o3 o4 o5 o6 hw1
  have hel := hw1.el
  have hkz := hw1.k
  change Does Tryd.prog 20 _ _ _
  refine Does.on 11 [2, 3, 4, 5, 6, 7, 8, 9, 10] _ _ (coreEnds (m := z1) (v := v1) hw1 ?_)
  rw [o1, o2]
  change Does Tryd.prog 17 _ _ _
  refine Does.on 11 [2, 3, 4, 5, 6, 7, 8, 9, 10] _ _ (coreEvents (m := z1) (v := v1) (by omega) ?_)
  change Does Tryd.prog 18 _ _ _
  refine Does.on 12 [11] _ _ (rounds (all := z1.el) (l := z1.el) (k := z1.el.length) (n := n) (ro := false) rfl (fun i _ => rfl) hn16 (by omega) (fun _ => ?_) fun e i h => absurd (o3.symm.trans h) (by simp))
  rw [o4, o5]
  refine brc_intro (fun _ => ?_) (fun h => ?_)
  · refine brc_intro (fun _ => ?_) (fun h => ?_)
    · change Does Tryd.prog 17 _ _ _
      refine Does.on 12 [2, 3, 4, 5, 6, 7, 8, 9, 10] _ _ (coreEvents (m := z1) (v := v1) (by omega) ?_)
      refine fin ?_
      have hnR : n * R ≤ 16 * 6 := Nat.mul_le_mul hn16.2 hR6
      have : IntKind.i64.wrap (IntKind.i64.wrap (2 * (n : Int)) * (R : Int)) = ((2 * n * R : Nat) : Int) := by
        rw [wrap_i64 (2 * (n : Int)) (by omega) (by omega), show (2 * (n : Int)) = ((2 * n : Nat) : Int) by omega, ← Int.natCast_mul, wrap_i64 _ (by omega) (by rw [Nat.mul_assoc]; omega)]
      rw [this, o6]
      simp
    · exact absurd (show ((R : Int) == (R : Int)) = false from h) (by simp)
  · exact absurd (show ((R : Int) == (R : Int)) = false from h) (by simp)

end Go.Mac
