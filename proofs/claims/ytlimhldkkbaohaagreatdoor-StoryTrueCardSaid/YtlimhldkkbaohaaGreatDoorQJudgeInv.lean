/- What holds of what the judge finds right. -/
import Derived.Test.YtlimhldkkbaohaaGreatDoorQRounds2
open Go Go.Proofs Go.Mac
set_option maxRecDepth 100000
namespace Go.Mac

theorem getD_setZ (l : List Int) (i j : Nat) (x : Int) (hi : i < l.length) : (l.set i x).getD j 0 = if i = j then x else l.getD j 0 := by
  rw [List.getD_eq_getElem?_getD, List.getD_eq_getElem?_getD]
  by_cases h : i = j
  · subst h
    rw [if_pos rfl, List.getElem?_set_self hi]
    rfl
  · rw [if_neg h, List.getElem?_set_ne h]

/-- Who came, and went, and how far anybody is. -/
structure JInv (n : Nat) (c g : List Int) (a : Int) : Prop where
  lc : c.length = n
  lg : g.length = n
  pos : ∀ t, t < n → 0 ≤ g.getD t 0
  low : ∀ t, t < n → g.getD t 0 ≤ c.getD t 0
  up : ∀ t, t < n → c.getD t 0 ≤ g.getD t 0 + 1
  all : ∀ t u, t < n → u < n → g.getD t 0 ≤ c.getD u 0
  le : ∀ u, u < n → c.getD u 0 ≤ a
  top : a = 0 ∨ ∃ u, u < n ∧ c.getD u 0 = a

theorem noughts_getD (n t : Nat) : (noughts n).getD t 0 = 0 := by
  rw [List.getD_eq_getElem?_getD, noughts, List.getElem?_replicate]
  split <;> rfl

theorem JInv.begin (n : Nat) : JInv n (noughts n) (noughts n) 0 :=
  ⟨by simp [noughts], by simp [noughts], fun t _ => by rw [noughts_getD]; omega, fun t _ => by rw [noughts_getD]; omega, fun t _ => by rw [noughts_getD]; omega, fun t u _ _ => by rw [noughts_getD, noughts_getD]; omega, fun t _ => by rw [noughts_getD]; omega, .inl rfl⟩

/-- What an event that is right is. -/
theorem oneZ_ok {e : EvZ} {c g : List Int} (he : (oneZ e c g).1 = 0) : (0 ≤ e.t ∧ e.t < c.length) ∧
    ((e.a = 1 ∧ c.getD e.t.toNat 0 = g.getD e.t.toNat 0 ∧ e.v = c.getD e.t.toNat 0 + 1 ∧ oneZ e c g = (0, c.set e.t.toNat (c.getD e.t.toNat 0 + 1), g)) ∨
     (e.a = 2 ∧ c.getD e.t.toNat 0 ≠ g.getD e.t.toNat 0 ∧ e.v = c.getD e.t.toNat 0 ∧ (∀ x ∈ c, e.v ≤ x) ∧ oneZ e c g = (0, c, g.set e.t.toNat (g.getD e.t.toNat 0 + 1)))) := by
  unfold oneZ at he ⊢
  split at he
  · simp at he
  rename_i h1
  rw [if_neg h1]
  split at he
  · simp at he
  rename_i h2
  rw [if_neg h2]
  refine ⟨by omega, ?_⟩
  split at he
  · rename_i h3
    rw [if_pos h3]
    split at he
    · simp at he
    rename_i h4
    rw [if_neg h4]
    exact .inl ⟨h3, by omega, by omega, rfl⟩
  · rename_i h3
    rw [if_neg h3]
    split at he
    · simp at he
    rename_i h4
    rw [if_neg h4]
    split at he
    · simp at he
    rename_i h6
    rw [if_neg h6]
    refine .inr ⟨by omega, by omega, by omega, fun x hx => ?_, rfl⟩
    have h6 : (c.any fun c => decide (c < e.v)) = false := by simpa using h6
    rw [List.any_eq_false] at h6
    have := h6 x hx
    simpa using this

theorem JInv.step {n : Nat} {c g : List Int} {a : Int} (h : JInv n c g a) (e : EvZ) (he : (oneZ e c g).1 = 0) : JInv n (oneZ e c g).2.1 (oneZ e c g).2.2 (anyStep a e) ∧ (oneZ e c g).2.2 = goneStep g e := by
  obtain ⟨lc, lg, pos, low, up, all, le, top⟩ := h
  obtain ⟨⟨ht0, ht1⟩, h⟩ := oneZ_ok he
  have ht : e.t.toNat < n := by omega
  have l1 := low _ ht
  have u1 := up _ ht
  have g1 := le _ ht
  have p1 := pos _ ht
  rcases h with ⟨ha, h1, h2, hz⟩ | ⟨ha, h1, h2, h7, hz⟩
  · rw [hz]
    dsimp only
    refine ⟨⟨by simp [lc], lg, pos, fun t h => ?_, fun t h => ?_, fun t u h h' => ?_, fun t h => ?_, ?_⟩, ?_⟩
    · rw [getD_setZ _ _ _ _ (by omega)]
      have := low t h
      split
      · rename_i e; subst e; omega
      · exact this
    · rw [getD_setZ _ _ _ _ (by omega)]
      have := up t h
      split
      · rename_i e; subst e; omega
      · exact this
    · rw [getD_setZ _ _ _ _ (by omega)]
      have := all t u h h'
      split
      · rename_i e; subst e; omega
      · exact this
    · rw [getD_setZ _ _ _ _ (by omega)]
      have := le t h
      unfold anyStep
      split <;> split <;> omega
    · unfold anyStep
      split
      · exact .inr ⟨_, ht, by rw [getD_setZ _ _ _ _ (by omega), if_pos rfl]; omega⟩
      · rcases top with h | ⟨u, hu, h⟩
        · exact .inl h
        · refine .inr ⟨u, hu, ?_⟩
          rw [getD_setZ _ _ _ _ (by omega), if_neg (fun e => by subst e; omega)]
          exact h
    · rw [goneStep, if_neg (by omega)]
  · have h7 : ∀ u, u < n → e.v ≤ c.getD u 0 := fun u hu => by
      have hg : c[u]? = some c[u] := List.getElem?_eq_getElem (by omega)
      rw [List.getD_eq_getElem?_getD, hg]
      exact h7 _ (List.getElem_mem _)
    rw [hz]
    dsimp only
    refine ⟨⟨lc, by simp [lg], fun t h => ?_, fun t h => ?_, fun t h => ?_, fun t u h h' => ?_, fun t h => ?_, ?_⟩, ?_⟩
    · rw [getD_setZ _ _ _ _ (by omega)]
      have := pos t h
      split <;> omega
    · rw [getD_setZ _ _ _ _ (by omega)]
      have := low t h
      split
      · rename_i e; subst e; omega
      · exact this
    · rw [getD_setZ _ _ _ _ (by omega)]
      have := up t h
      split
      · rename_i e; subst e; omega
      · exact this
    · rw [getD_setZ _ _ _ _ (by omega)]
      have := all t u h h'
      have := h7 u h'
      split <;> omega
    · have := le t h
      unfold anyStep
      split <;> omega
    · have : anyStep a e = a := by
        unfold anyStep
        rw [if_neg (by omega)]
      rw [this]
      exact top
    · rw [goneStep, if_pos ha]

theorem JInv.run {n : Nat} : ∀ (l : List EvZ) (i : Nat) (c g : List Int) (a : Int), JInv n c g a → runZ l i c g = none → ∃ c', JInv n c' (l.foldl goneStep g) (l.foldl anyStep a)
  | [], _, c, g, a, h, _ => ⟨c, h⟩
  | e :: l, i, c, g, a, h, hr => by
    rw [runZ] at hr
    split at hr
    · rename_i h0
      obtain ⟨h1, h2⟩ := h.step e h0
      rw [List.foldl_cons, List.foldl_cons, ← h2]
      exact JInv.run l (i + 1) _ _ _ h1 hr
    · cases hr

theorem min_fold : ∀ (l : List Int) (m : Int), l.foldl allStep m ≤ m ∧ (∀ x ∈ l, l.foldl allStep m ≤ x) ∧ (l.foldl allStep m = m ∨ l.foldl allStep m ∈ l)
  | [], m => ⟨Int.le_refl _, by simp, .inl rfl⟩
  | x :: l, m => by
    obtain ⟨h1, h2, h3⟩ := min_fold l (allStep m x)
    rw [List.foldl_cons]
    have hm : allStep m x ≤ m ∧ allStep m x ≤ x ∧ (allStep m x = m ∨ allStep m x = x) := by
      unfold allStep
      split <;> omega
    refine ⟨by omega, fun y hy => ?_, ?_⟩
    · rcases List.mem_cons.1 hy with rfl | hy
      · omega
      · exact h2 y hy
    · rcases h3 with h3 | h3
      · rcases hm.2.2 with e | e
        · exact .inl (h3.trans e)
        · exact .inr (by rw [h3, e]; exact List.mem_cons_self)
      · exact .inr (List.mem_cons_of_mem _ h3)

/-- How many rounds all went through is what somebody did, and no more than anybody. -/
theorem allG_min {n : Nat} (hn : 1 ≤ n) (l : List EvZ) : (∀ u, u < n → allG n l ≤ (goneR n l).getD u 0) ∧ ∃ u, u < n ∧ allG n l = (goneR n l).getD u 0 := by
  have hl := goneR_len n l
  unfold allG
  generalize goneR n l = G at *
  obtain ⟨h1, h2, h3⟩ := min_fold G (G.getD 0 0)
  have hget : ∀ u, u < n → G[u]? = some (G.getD u 0) := fun u hu => by
    rw [List.getD_eq_getElem?_getD, List.getElem?_eq_getElem (by omega)]
    rfl
  refine ⟨fun u hu => h2 _ (List.mem_iff_getElem?.2 ⟨u, hget u hu⟩), ?_⟩
  rcases h3 with h3 | h3
  · exact ⟨0, by omega, h3⟩
  · obtain ⟨u, hu⟩ := List.mem_iff_getElem?.1 h3
    have hul := (List.getElem?_eq_some_iff.1 hu).1
    have := (hget u (by omega)).symm.trans hu
    exact ⟨u, by omega, (Option.some.inj this).symm⟩

theorem rounds_apart {n : Nat} (hn : 1 ≤ n) {l : List EvZ} (h : checkZ n l = none) : allG n l ≤ anyR l ∧ anyR l ≤ allG n l + 2 ∧ 0 ≤ allG n l := by
  obtain ⟨c, h⟩ := (JInv.begin n).run l 0 _ _ _ h
  obtain ⟨h1, u, hu, h2⟩ := allG_min hn l
  change JInv n c (goneR n l) (anyR l) at h
  have a1 := h.low u hu
  have a2 := h.le u hu
  have a3 := h.pos u hu
  refine ⟨by omega, ?_, by omega⟩
  rcases h.top with h0 | ⟨v, hv, h0⟩
  · omega
  · have := h.up v hv
    have := h.all v u hv hu
    have := h.up u hu
    omega

end Go.Mac
