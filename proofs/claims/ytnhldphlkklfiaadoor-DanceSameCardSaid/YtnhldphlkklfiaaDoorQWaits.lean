/- Who never comes is waited for: nobody goes. -/
import Derived.Test.YtnhldphlkklfiaaDoorQDanceLag
import Derived.Test.YtnhldphlkklfiaaDoorQDanceZ
open Go Go.Proofs Go.Mac
set_option maxRecDepth 100000
namespace Go.Mac

theorem one_up {e : EvZ} {c g : List Int} (h : (oneZ e c g).1 = 0) {w : Nat} (hw : w < c.length) :
    c.getD w 0 ≤ (oneZ e c g).2.1.getD w 0 ∧ (e.a = 1 → e.t = w → (oneZ e c g).2.1.getD w 0 = c.getD w 0 + 1) ∧ (e.a = 1 ∨ e.a = 2) ∧ (e.a = 2 → 0 ≤ e.t ∧ e.t < c.length ∧ e.v = c.getD e.t.toNat 0 ∧ c.getD e.t.toNat 0 ≠ g.getD e.t.toNat 0) := by
  unfold oneZ at h ⊢
  split at h
  · cases h
  · rename_i h1
    rw [if_neg h1]
    split at h
    · cases h
    · rename_i h2
      rw [if_neg h2]
      split at h
      · rename_i h3
        rw [if_pos h3]
        split at h
        · cases h
        · rename_i h4
          rw [if_neg h4]
          dsimp only
          rw [List.getD_eq_getElem?_getD (l := c.set _ _), List.getElem?_set]
          by_cases ht : e.t = w
          · rw [if_pos (by omega), if_pos (by omega), show e.t.toNat = w by omega]
            exact ⟨by show _ ≤ c.getD w 0 + 1; omega, fun _ _ => rfl, .inl h3, fun h5 => absurd (h3.symm.trans h5) (by decide)⟩
          · rw [if_neg (by omega), ← List.getD_eq_getElem?_getD]
            exact ⟨Int.le_refl _, fun _ h5 => absurd h5 ht, .inl h3, fun h5 => absurd (h3.symm.trans h5) (by decide)⟩
      · rename_i h3
        rw [if_neg h3]
        split at h
        · cases h
        · rename_i h4
          rw [if_neg h4]
          split at h
          · cases h
          · rename_i h5
            rw [if_neg h5]
            refine ⟨Int.le_refl _, fun h6 => absurd h6 h3, .inr ?_, fun _ => ⟨by omega, by omega, ?_, fun h6 => h4 (.inl h6)⟩⟩
            · exact Classical.byContradiction fun h6 => h1 ⟨h3, h6⟩
            · exact Classical.byContradiction fun h6 => h4 (.inr h6)

theorem prefix_inv {n : Nat} {l : List EvZ} (h : checkZ n l = none) : ∀ j, j ≤ l.length → ∃ a, JInv n (evS n (l.take j)).1 (evS n (l.take j)).2 a
  | 0, _ => ⟨0, JInv.begin n⟩
  | j + 1, hj => by
    obtain ⟨a, h1⟩ := prefix_inv h j (by omega)
    have hx : l[j]? = some l[j] := List.getElem?_eq_getElem (by omega)
    rw [take_snoc hx, evS_snoc]
    exact ⟨_, (h1.step _ (check_at h hx)).1⟩

theorem none_goes {n : Nat} {l : List EvZ} (h : checkZ n l = none) {w : Nat} (hw : w < n) (hc : (evS n l).1.getD w 0 = 0) : ∀ (j : Nat) (e : EvZ), l[j]? = some e → e.a ≠ 2 ∧ e.t ≠ w := by
  have hlen : ∀ j, (evS n (l.take j)).1.length = n := fun j => by
    rw [evS, evS_len]
    show (List.replicate n (0 : Int)).length = n
    rw [List.length_replicate]
  have hup : ∀ d j, j + d ≤ l.length → (evS n (l.take j)).1.getD w 0 ≤ (evS n (l.take (j + d))).1.getD w 0 := fun d => by
    induction d with
    | zero => exact fun j _ => Int.le_refl _
    | succ d ih =>
      intro j hj
      have h1 := ih j (by omega)
      have hx : l[j + d]? = some l[j + d] := List.getElem?_eq_getElem (by omega)
      have h2 := (one_up (check_at h hx) (w := w) (by rw [hlen]; exact hw)).1
      rw [← evS_snoc, ← take_snoc hx] at h2
      exact Int.le_trans h1 h2
  intro j e he
  have hj : j < l.length := (List.getElem?_eq_some_iff.1 he).1
  have hj0 := hup j 0 (by omega)
  rw [Nat.zero_add, show (evS n (l.take 0)).1.getD w 0 = 0 from noughts_getD n w] at hj0
  have hj1 := hup (l.length - (j + 1)) (j + 1) (by omega)
  rw [show j + 1 + (l.length - (j + 1)) = l.length by omega, List.take_length, hc, take_snoc he, evS_snoc] at hj1
  have hj2 := hup (l.length - j) j (by omega)
  rw [show j + (l.length - j) = l.length by omega, List.take_length, hc] at hj2
  obtain ⟨u1, u2, u3, u4⟩ := one_up (check_at h he) (w := w) (by rw [hlen]; exact hw)
  obtain ⟨_, l2⟩ := one_lag (check_at h he) (w := w) (by rw [hlen]; exact hw)
  obtain ⟨a, hJ⟩ := prefix_inv h j (by omega)
  have h2 : e.a ≠ 2 := fun h2 => by
    obtain ⟨g1, g2, g3, g4⟩ := u4 h2
    have := l2 h2
    rw [hlen] at g2
    have p1 := hJ.pos e.t.toNat (by omega)
    have p2 := hJ.low e.t.toNat (by omega)
    omega
  refine ⟨h2, fun ht => ?_⟩
  rcases u3 with u3 | u3
  · have := u2 u3 ht
    omega
  · exact h2 u3

/-- The picks without one. -/
def picksW (n w : Nat) (l : List Int) : List MoveZ := (l.filter fun t => pickZ t n != (w : Int)).map fun t => ⟨pickZ t n, false⟩

theorem dance_waits {k n R w : Nat} (hk : 1 ≤ k ∧ k ≤ 6) (hn : 1 ≤ n ∧ n ≤ 16) (hR : R ≤ 6) (hw : w < n) (l : List Int) :
    ∀ (j : Nat) (e : EvZ), (movesZ (danceM k n R) (picksW n w l)).el[j]? = some e → e.a ≠ 2 ∧ e.t ≠ w := by
  obtain ⟨A, V, h, hA⟩ := DI.steps (kind_bar R hk hn) (fun s => s = w) (picksW n w l) (fun x hx => by
    obtain ⟨t, ht, rfl⟩ := List.mem_map.1 hx
    have := (List.mem_filter.1 ht).2
    refine ⟨rfl, fun s hs => ?_⟩
    subst hs
    simpa using this) (dance_begin hk hn (show R ≤ 20 by omega))
  refine none_goes h.ev.ok hw ?_
  rw [h.ev.c, List.getD_eq_getElem?_getD, List.getElem?_map, List.getElem?_range hw]
  show (cmA (A w) : Int) = 0
  rw [hA w rfl]
  rfl

section
variable {K : AV → List Nat → List PO → Prop}

end

end Go.Mac
