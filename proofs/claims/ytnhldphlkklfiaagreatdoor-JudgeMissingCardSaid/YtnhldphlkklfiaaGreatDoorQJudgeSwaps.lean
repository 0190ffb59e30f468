/- The judge's law on neighbours. -/
import Derived.Test.YtnhldphlkklfiaaGreatDoorQJudgeInv
import Derived.Test.YtnhldphlkklfiaaGreatDoorQJudgeLaw
import Derived.Test.YtnhldphlkklfiaaGreatDoorQJudged
open Go Go.Proofs Go.Mac
set_option maxRecDepth 100000
namespace Go.Mac

theorem runZ_idx : ∀ (l : List EvZ) (i j : Nat) (c g : List Int), runZ l i c g = none → runZ l j c g = none
  | [], _, _, _, _, _ => rfl
  | e :: l, i, j, c, g, h => by
    rw [runZ] at h ⊢
    split at h
    · rename_i h0
      rw [if_pos h0]
      exact runZ_idx l _ _ _ _ h
    · cases h

theorem oneZ_came {e : EvZ} {c g : List Int} (ha : e.a = 1) (h0 : 0 ≤ e.t) (h1 : e.t < c.length) (h2 : c.getD e.t.toNat 0 = g.getD e.t.toNat 0) (h3 : e.v = c.getD e.t.toNat 0 + 1) : oneZ e c g = (0, c.set e.t.toNat (c.getD e.t.toNat 0 + 1), g) := by
  unfold oneZ
  rw [if_neg (by omega), if_neg (by omega), if_pos ha, if_neg (by omega)]

theorem oneZ_gone {e : EvZ} {c g : List Int} (ha : e.a = 2) (h0 : 0 ≤ e.t) (h1 : e.t < c.length) (h2 : c.getD e.t.toNat 0 ≠ g.getD e.t.toNat 0) (h3 : e.v = c.getD e.t.toNat 0) (h4 : ∀ x ∈ c, e.v ≤ x) : oneZ e c g = (0, c, g.set e.t.toNat (g.getD e.t.toNat 0 + 1)) := by
  unfold oneZ
  rw [if_neg (by omega), if_neg (by omega), if_neg (by omega), if_neg (by omega), if_neg]
  rw [Bool.not_eq_true, List.any_eq_false]
  intro x hx
  have := h4 x hx
  simpa using this

theorem two_swap {x y : EvZ} {c g : List Int} (hlen : g.length = c.length) (ht : x.t ≠ y.t) (ha : x.a = y.a) (hx : (oneZ x c g).1 = 0) (hy : (oneZ y (oneZ x c g).2.1 (oneZ x c g).2.2).1 = 0) :
    (oneZ y c g).1 = 0 ∧ (oneZ x (oneZ y c g).2.1 (oneZ y c g).2.2).1 = 0 ∧ (oneZ x (oneZ y c g).2.1 (oneZ y c g).2.2).2 = (oneZ y (oneZ x c g).2.1 (oneZ x c g).2.2).2 := by
  obtain ⟨⟨tx0, tx1⟩, hx⟩ := oneZ_ok hx
  rcases hx with ⟨a1, a2, a3, a4⟩ | ⟨a1, a2, a3, a5, a4⟩
  · rw [a4] at hy ⊢
    dsimp only at hy ⊢
    obtain ⟨⟨ty0, ty1⟩, hy⟩ := oneZ_ok hy
    rw [List.length_set] at ty1
    have hne : x.t.toNat ≠ y.t.toNat := by omega
    rcases hy with ⟨b1, b2, b3, b4⟩ | ⟨b1, _⟩
    · rw [getD_setZ _ _ _ _ (by omega), if_neg hne] at b2 b3 b4
      rw [b4, oneZ_came b1 ty0 ty1 b2 b3]
      dsimp only
      have hxx : oneZ x (c.set y.t.toNat (c.getD y.t.toNat 0 + 1)) g = (0, (c.set y.t.toNat (c.getD y.t.toNat 0 + 1)).set x.t.toNat (c.getD x.t.toNat 0 + 1), g) := by
        rw [oneZ_came a1 tx0 (by simp; exact tx1) (by rw [getD_setZ _ _ _ _ (by omega), if_neg (Ne.symm hne)]; exact a2) (by rw [getD_setZ _ _ _ _ (by omega), if_neg (Ne.symm hne)]; exact a3), getD_setZ _ _ _ _ (by omega), if_neg (Ne.symm hne)]
      rw [hxx]
      refine ⟨rfl, rfl, ?_⟩
      dsimp only
      rw [List.set_comm _ _ hne]
    · omega
  · rw [a4] at hy ⊢
    dsimp only at hy ⊢
    obtain ⟨⟨ty0, ty1⟩, hy⟩ := oneZ_ok hy
    have hne : x.t.toNat ≠ y.t.toNat := by omega
    rcases hy with ⟨b1, _⟩ | ⟨b1, b2, b3, b5, b4⟩
    · omega
    · rw [getD_setZ _ _ _ _ (by omega), if_neg hne] at b2 b4
      rw [b4, oneZ_gone b1 ty0 ty1 b2 b3 b5]
      dsimp only
      have hxx : oneZ x c (g.set y.t.toNat (g.getD y.t.toNat 0 + 1)) = (0, c, (g.set y.t.toNat (g.getD y.t.toNat 0 + 1)).set x.t.toNat (g.getD x.t.toNat 0 + 1)) := by
        rw [oneZ_gone a1 tx0 tx1 (by rw [getD_setZ _ _ _ _ (by omega), if_neg (Ne.symm hne)]; exact a2) a3 a5, getD_setZ _ _ _ _ (by omega), if_neg (Ne.symm hne)]
      rw [hxx]
      refine ⟨rfl, rfl, ?_⟩
      dsimp only
      rw [List.set_comm _ _ hne]

theorem runZ_swap {x y : EvZ} (ht : x.t ≠ y.t) (ha : x.a = y.a) : ∀ (pre post : List EvZ) (i : Nat) (c g : List Int), g.length = c.length → runZ (pre ++ x :: y :: post) i c g = none → runZ (pre ++ y :: x :: post) i c g = none
  | [], post, i, c, g, hl, h => by
    rw [List.nil_append, runZ] at h ⊢
    split at h
    · rename_i hx
      rw [runZ] at h
      split at h
      · rename_i hy
        obtain ⟨h1, h2, h3⟩ := two_swap hl ht ha hx hy
        rw [if_pos h1, runZ, if_pos h2, h3]
        exact h
      · cases h
    · cases h
  | e :: pre, post, i, c, g, hl, h => by
    rw [List.cons_append, runZ] at h ⊢
    split at h
    · rename_i h0
      rw [if_pos h0]
      have := oneZ_len e c g
      exact runZ_swap ht ha pre post (i + 1) _ _ (by rw [this.1, this.2]; exact hl) h
    · cases h

theorem cloneEvs {K : AV → List Nat → List PO → Prop} {l : List EvZ} {ro : Bool} (hn : l.length < 1000000) (h : K (cv (.slc 1 0 l.length none true)) [] [.rows ro 4 (l.map rowEv), .rows false 4 (l.map rowEv)]) :
    Does Tryz.prog 42 [cv (.slc 0 0 l.length none true)] [.rows ro 4 (l.map rowEv)] K := by
  refine does Tryz.func42 rfl (by decide) ?_
  refine And.intro (by simp) ?_
  have hx : ((l.map rowEv).drop 0).take l.length = l.map rowEv := by rw [List.drop_zero]; exact List.take_of_length_le (by simp)
  rw [hx]
  refine Or.inl (And.intro rfl (And.intro rfl (And.intro ?_ (And.intro ?_ ?_))))
  · show (0 + (l.map rowEv).length) * 32 ≤ _
    simp
    omega
  · simp
    omega
  · have e : 0 + (l.map rowEv).length = l.length := by simp
    rw [e]
    exact h

theorem two_cut {l : List EvZ} {i : Nat} (h : i + 1 < l.length) : ∃ x y, l[i]? = some x ∧ l[i + 1]? = some y ∧ l = l.take i ++ x :: y :: l.drop (i + 2) := by
  refine ⟨l[i], l[i + 1], List.getElem?_eq_getElem _, List.getElem?_eq_getElem _, ?_⟩
  conv => lhs; rw [← List.take_append_drop i l, List.drop_eq_getElem_cons (by omega), List.drop_eq_getElem_cons h]

theorem swap_at {l : List EvZ} {i : Nat} {x y : EvZ} (h : l = l.take i ++ x :: y :: l.drop (i + 2)) (hi : i ≤ l.length) : (l.set (i + 1) x).set i y = l.take i ++ y :: x :: l.drop (i + 2) := by
  have hl : (l.take i).length = i := by simp; omega
  conv => lhs; rw [h]
  rw [List.set_append_right _ _ (by omega), hl, show i + 1 - i = 1 by omega, List.set_append_right _ _ (by omega), hl, Nat.sub_self]
  rfl

end Go.Mac
