/- What one thread says: came, went, round by round. -/
import Derived.Test.YtnhldphlkklfiaaDoorQWaits
open Go Go.Proofs Go.Mac
set_option maxRecDepth 100000
namespace Go.Mac

theorem one_thread {e : EvZ} {c g : List Int} (h : (oneZ e c g).1 = 0) (hg : g.length = c.length) {t : Nat} (ht : t < c.length) :
    (e.t ≠ t ∧ (oneZ e c g).2.1.getD t 0 = c.getD t 0 ∧ (oneZ e c g).2.2.getD t 0 = g.getD t 0) ∨
    (e.t = t ∧ e.a = 1 ∧ c.getD t 0 = g.getD t 0 ∧ e.v = c.getD t 0 + 1 ∧ (oneZ e c g).2.1.getD t 0 = c.getD t 0 + 1 ∧ (oneZ e c g).2.2.getD t 0 = g.getD t 0) ∨
    (e.t = t ∧ e.a = 2 ∧ c.getD t 0 ≠ g.getD t 0 ∧ e.v = c.getD t 0 ∧ (oneZ e c g).2.1.getD t 0 = c.getD t 0 ∧ (oneZ e c g).2.2.getD t 0 = g.getD t 0 + 1) := by
  unfold oneZ at h ⊢
  split at h
  · cases h
  · rename_i h1
    rw [if_neg h1]
    split at h
    · cases h
    · rename_i h2
      rw [if_neg h2]
      split at h
      · rename_i h3
        rw [if_pos h3]
        split at h
        · cases h
        · rename_i h4
          rw [if_neg h4]
          have k1 : c.getD e.t.toNat 0 = g.getD e.t.toNat 0 := Classical.byContradiction fun h6 => h4 (.inl h6)
          have k2 : e.v = c.getD e.t.toNat 0 + 1 := Classical.byContradiction fun h6 => h4 (.inr h6)
          dsimp only
          rw [List.getD_eq_getElem?_getD (l := c.set _ _), List.getElem?_set]
          by_cases hx : e.t = t
          · rw [show e.t.toNat = t by omega] at k1 k2 ⊢
            rw [if_pos rfl, if_pos ht]
            exact .inr (.inl ⟨hx, h3, k1, k2, rfl, rfl⟩)
          · rw [if_neg (by omega), ← List.getD_eq_getElem?_getD]
            exact .inl ⟨hx, rfl, rfl⟩
      · rename_i h3
        rw [if_neg h3]
        split at h
        · cases h
        · rename_i h4
          rw [if_neg h4]
          split at h
          · cases h
          · rename_i h5
            rw [if_neg h5]
            have k0 : e.a = 2 := Classical.byContradiction fun h6 => h1 ⟨h3, h6⟩
            have k1 : c.getD e.t.toNat 0 ≠ g.getD e.t.toNat 0 := fun h6 => h4 (.inl h6)
            have k2 : e.v = c.getD e.t.toNat 0 := Classical.byContradiction fun h6 => h4 (.inr h6)
            dsimp only
            rw [List.getD_eq_getElem?_getD (l := g.set _ _), List.getElem?_set]
            by_cases hx : e.t = t
            · rw [show e.t.toNat = t by omega] at k1 k2 ⊢
              rw [if_pos rfl, if_pos (by omega)]
              exact .inr (.inr ⟨hx, k0, k1, k2, rfl, rfl⟩)
            · rw [if_neg (by omega), ← List.getD_eq_getElem?_getD (l := g)]
              exact .inl ⟨hx, rfl, rfl⟩

/-- What a thread says in so many rounds. -/
def saysR : Nat → List Int
  | 0 => []
  | m + 1 => saysR m ++ [1, (m : Int) + 1, 2, (m : Int) + 1]

/-- What a thread said. -/
def saysT (t : Nat) (l : List EvZ) : List Int := l.flatMap fun e => if e.t = (t : Int) then [e.a, e.v] else []

theorem thread_says {n : Nat} {l : List EvZ} (h : checkZ n l = none) {t : Nat} (ht : t < n) : ∀ j, j ≤ l.length → ∃ m : Nat, (evS n (l.take j)).2.getD t 0 = m ∧
    saysT t (l.take j) = saysR m ++ (if (evS n (l.take j)).1.getD t 0 = (evS n (l.take j)).2.getD t 0 then [] else [1, (m : Int) + 1])
  | 0, _ => by
    refine ⟨0, noughts_getD n t, ?_⟩
    show ([] : List Int) = [] ++ (if (noughts n).getD t 0 = (noughts n).getD t 0 then [] else _)
    rw [if_pos rfl]
    rfl
  | j + 1, hj => by
    obtain ⟨m, h1, h2⟩ := thread_says h ht j (by omega)
    obtain ⟨a, hJ⟩ := prefix_inv h j (by omega)
    have hx : l[j]? = some l[j] := List.getElem?_eq_getElem (by omega)
    have hs : saysT t (l.take (j + 1)) = saysT t (l.take j) ++ (if (l[j]).t = (t : Int) then [(l[j]).a, (l[j]).v] else []) := by
      rw [take_snoc hx, saysT, List.flatMap_append]
      simp [saysT]
    have hlo := hJ.low t ht
    have hup := hJ.up t ht
    have hc := check_at h hx
    rcases one_thread hc (by rw [hJ.lc, hJ.lg]) (t := t) (by rw [hJ.lc]; exact ht) with ⟨k1, k2, k3⟩ | ⟨k1, k0, k4, k5, k2, k3⟩ | ⟨k1, k0, k4, k5, k2, k3⟩
    · rw [← evS_snoc, ← take_snoc hx] at k2 k3
      refine ⟨m, k3.trans h1, ?_⟩
      rw [hs, if_neg k1, List.append_nil, h2, k2, k3]
    · rw [← evS_snoc, ← take_snoc hx] at k2 k3
      refine ⟨m, k3.trans h1, ?_⟩
      rw [hs, if_pos k1, h2, if_pos k4, List.append_nil, k2, k3, if_neg (by omega), k0, k5, k4, h1]
    · rw [← evS_snoc, ← take_snoc hx] at k2 k3
      refine ⟨m + 1, by rw [k3, h1]; omega, ?_⟩
      rw [hs, if_pos k1, h2, if_neg k4, k2, k3, if_pos (by omega), k0, k5, show (evS n (l.take j)).1.getD t 0 = (m : Int) + 1 by omega, saysR, List.append_assoc, List.append_nil]
      rfl

/-- In the end. -/
theorem end_says {n R : Nat} {l : List EvZ} (h : checkZ n l = none) {t : Nat} (ht : t < n) (hc : (evS n l).1.getD t 0 = R) (hg : (evS n l).2.getD t 0 = R) : saysT t l = saysR R := by
  obtain ⟨m, h1, h2⟩ := thread_says h ht l.length (Nat.le_refl _)
  rw [List.take_length] at h1 h2
  obtain rfl : m = R := by omega
  rw [h2, hc, hg, if_pos rfl, List.append_nil]

section
variable {n nc R : Nat} {P : Nat → List Pc} {I : (Nat → AT) → (Nat → Nat) → List Slp → Prop} {F : (Nat → AT) → (Nat → Nat) → List Slp → Nat} {b : Nat} {A : Nat → AT} {V : Nat → Nat} {m : MZ}

/-- All that each thread said in the end. -/
theorem DI.says (hB : Bar n R P I F) (h : DI n nc R P I F b A V m) (he : ∀ t, t < n → (A t).l = .ended) {t : Nat} (ht : t < n) : saysT t m.el = saysR R := by
  have hr : (A t).r = R + 1 := by
    have := hB.reg A V _ h.inv t ht
    rw [RegOk, he t ht] at this
    exact this.1
  refine end_says h.ev.ok ht ?_ ?_
  · rw [h.ev.c, List.getD_eq_getElem?_getD, List.getElem?_map, List.getElem?_range ht]
    show (cmA (A t) : Int) = R
    rw [cmA, he t ht]
    show (((A t).r - 1 : Nat) : Int) = R
    omega
  · rw [h.ev.g, List.getD_eq_getElem?_getD, List.getElem?_map, List.getElem?_range ht]
    show (gnA (A t) : Int) = R
    rw [gnA, he t ht]
    show (((A t).r - 1 : Nat) : Int) = R
    omega

end

end Go.Mac
