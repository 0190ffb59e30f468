/- Who didn't come is missed. -/
import Derived.Test.YtnhldphlkklfiaaGreatDoorQJudgeSwaps
open Go Go.Proofs Go.Mac
set_option maxRecDepth 100000
namespace Go.Mac

/-- Who came, and went, behind events. -/
def stZ (l : List EvZ) (p : List Int × List Int) : List Int × List Int := l.foldl (fun p e => (oneZ e p.1 p.2).2) p

theorem runZ_app : ∀ (a b : List EvZ) (i : Nat) (c g : List Int), runZ (a ++ b) i c g = none → runZ b 0 (stZ a (c, g)).1 (stZ a (c, g)).2 = none
  | [], b, i, c, g, h => runZ_idx b i 0 c g h
  | e :: a, b, i, c, g, h => by
    rw [List.cons_append, runZ] at h
    split at h
    · exact runZ_app a b (i + 1) _ _ h
    · cases h

theorem stZ_len : ∀ (l : List EvZ) (c g : List Int), (stZ l (c, g)).1.length = c.length ∧ (stZ l (c, g)).2.length = g.length
  | [], _, _ => ⟨rfl, rfl⟩
  | e :: l, c, g => by
    have h1 := stZ_len l (oneZ e c g).2.1 (oneZ e c g).2.2
    have h2 := oneZ_len e c g
    exact ⟨h1.1.trans h2.1, h1.2.trans h2.2⟩

theorem getD_mem {l : List Int} {i : Nat} (h : i < l.length) : l.getD i 0 ∈ l := by
  rw [List.getD_eq_getElem?_getD, List.getElem?_eq_getElem h]
  exact List.getElem_mem h

/-- Where somebody is one behind, nobody goes of that round. -/
theorem miss {T : Nat} {v : Int} : ∀ (l : List EvZ) (i j : Nat) (c g : List Int), T < c.length → c.getD T 0 = v → g.getD T 0 = v - 1 →
    runZ l i c g = none → runZ l j (c.set T (v - 1)) g = none → ∀ e ∈ l, e.a = 2 → e.v ≠ v
  | [], _, _, _, _, _, _, _, _, _ => fun e he => by cases he
  | x :: l, i, j, c, g, hT, hc, hg, h1, h2 => by
    rw [runZ] at h1 h2
    split at h1
    · rename_i k1
      split at h2
      · rename_i k2
        obtain ⟨⟨t0, t1⟩, o1⟩ := oneZ_ok k1
        obtain ⟨_, o2⟩ := oneZ_ok k2
        have gs : ∀ u, (c.set T (v - 1)).getD u 0 = if T = u then v - 1 else c.getD u 0 := fun u => getD_setZ _ _ _ _ hT
        by_cases hx : x.t.toNat = T
        · exfalso
          rw [gs, if_pos hx.symm] at o2
          rw [hx] at o1 o2
          rcases o1 with ⟨a1, b1, c1, _⟩ | ⟨a1, b1, c1, _, _⟩
          · omega
          · rcases o2 with ⟨a2, _⟩ | ⟨a2, b2, _⟩
            · omega
            · omega
        · rw [gs, if_neg (fun h => hx h.symm)] at o2
          rcases o1 with ⟨a1, b1, c1, e1⟩ | ⟨a1, b1, c1, d1, e1⟩
          · rcases o2 with ⟨a2, b2, c2, e2⟩ | ⟨a2, _⟩
            · rw [e1] at h1
              rw [e2, List.set_comm _ _ (fun h => hx h.symm)] at h2
              have := miss l (i + 1) (j + 1) _ g (by rw [List.length_set]; exact hT) (by rw [getD_setZ _ _ _ _ (by omega), if_neg hx]; exact hc) hg h1 h2
              intro e he ha
              rcases List.mem_cons.1 he with rfl | he
              · omega
              · exact this e he ha
            · omega
          · rcases o2 with ⟨a2, _⟩ | ⟨a2, b2, c2, d2, e2⟩
            · omega
            · rw [e1] at h1
              rw [e2] at h2
              have hm := d2 _ (getD_mem (l := c.set T (v - 1)) (i := T) (by rw [List.length_set]; exact hT))
              rw [gs, if_pos rfl] at hm
              have hg2 : (g.set x.t.toNat (g.getD x.t.toNat 0 + 1)).getD T 0 = v - 1 := by
                by_cases hl : x.t.toNat < g.length
                · rw [getD_setZ _ _ _ _ hl, if_neg hx]; exact hg
                · rw [List.set_eq_of_length_le (by omega)]; exact hg
              have := miss l (i + 1) (j + 1) c _ hT hc hg2 h1 h2
              intro e he ha
              rcases List.mem_cons.1 he with rfl | he
              · omega
              · exact this e he ha
      · cases h2
    · cases h1

/-- Without one's coming to a round of which somebody goes later it is wrong. -/
theorem missing {n : Nat} {l : List EvZ} {i : Nat} {x : EvZ} (h : checkZ n l = none) (hi : l[i]? = some x) (ha : x.a = 1) (hl : ∃ e ∈ l.drop (i + 1), e.a = 2 ∧ e.v = x.v) : checkZ n (l.take i ++ l.drop (i + 1)) ≠ none := by
  intro h2
  have hil := (List.getElem?_eq_some_iff.1 hi).1
  have e : l = l.take i ++ (x :: l.drop (i + 1)) := by
    rw [← (List.getElem?_eq_some_iff.1 hi).2, ← List.drop_eq_getElem_cons hil, List.take_append_drop]
  have h : runZ l 0 (noughts n) (noughts n) = none := h
  rw [e] at h
  have h3 := runZ_app _ _ _ _ _ h
  have h4 := runZ_app _ _ _ _ _ h2
  obtain ⟨l1, l2⟩ := stZ_len (l.take i) (noughts n) (noughts n)
  generalize stZ (l.take i) (noughts n, noughts n) = s at h3 h4 l1 l2
  obtain ⟨c, g⟩ := s
  dsimp only at h3 h4 l1 l2
  rw [runZ] at h3
  split at h3
  · rename_i k1
    obtain ⟨⟨t0, t1⟩, o1⟩ := oneZ_ok k1
    rcases o1 with ⟨_, b1, c1, e1⟩ | ⟨a1, _⟩
    · rw [e1] at h3
      dsimp only at h3
      have hback : (c.set x.t.toNat (c.getD x.t.toNat 0 + 1)).set x.t.toNat (x.v - 1) = c := by
        rw [List.set_set, show x.v - 1 = c.getD x.t.toNat 0 by omega, List.getD_eq_getElem?_getD, List.getElem?_eq_getElem (by omega)]
        exact List.set_getElem_self (by omega)
      obtain ⟨y, hy, ya, yv⟩ := hl
      refine miss (T := x.t.toNat) (v := x.v) (l.drop (i + 1)) 1 0 _ g (by rw [List.length_set]; omega) (by rw [getD_setZ _ _ _ _ (by omega), if_pos rfl]; omega) (by omega) h3 (by rw [hback]; exact h4) y hy ya yv
    · omega
  · cases h3

end Go.Mac
