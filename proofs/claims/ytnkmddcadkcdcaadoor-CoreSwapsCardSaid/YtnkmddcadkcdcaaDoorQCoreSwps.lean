/- Of all that want to be the first just one is. -/
import Derived.Test.YtnkmddcadkcdcaaDoorQRaced
import Derived.Test.YtnkmddcadkcdcaaDoorQRaceL
import Derived.Test.YtnkmddcadkcdcaaDoorGBase
open Go Go.Proofs Go.Mac
set_option maxRecDepth 100000
namespace Go.Mac

theorem swpP_cat : catP swpL = [⟨1, 2, 5, 0, 0⟩, ⟨9, 3, 0, 1, 2⟩, ⟨16, 3, 3, 0, 0⟩, ⟨0, 0, 0, 0, 0⟩] := rfl

def sumV (l : List EvZ) : Int := (l.map (·.v)).sum

theorem sumV_take {l : List EvZ} {i : Nat} {e : EvZ} (h : l[i]? = some e) : sumV (l.take (i + 1)) = sumV (l.take i) + e.v := by
  rw [sumV, List.take_add_one, h, List.map_append, List.sum_append]
  simp [sumV]

theorem sumV_le : ∀ (l : List EvZ), (∀ e ∈ l, 0 ≤ e.v ∧ e.v ≤ 1) → 0 ≤ sumV l ∧ sumV l ≤ l.length
  | [], _ => ⟨Int.le_refl _, Int.le_refl _⟩
  | e :: l, h => by
    have h1 := h e (by simp)
    have h2 := sumV_le l fun x hx => h x (by simp [hx])
    have h3 : sumV (e :: l) = e.v + sumV l := rfl
    rw [h3, List.length_cons]
    omega

theorem coreSwaps (a : Int) (_ha : -9223372036854775808 ≤ a ∧ a ≤ 9223372036854775807) (ms : List MoveZ) :
    Does Tryd.prog 10 [i64 a, cv (.slc 0 0 ms.length none false)] [.rows true 2 (ms.map rowMove), rtH] fun v _ _ => v = bl true := by
  refine does Tryd.func10 rfl (by decide) ?_
  change Does Tryd.prog 42 _ _ _
  refine Does.alone 2 (gone ?_)
  refine brc_intro (fun _ => rfl) (fun h => ?_)
  have hms : ms.length ≤ 300 := by
    have := of_decide_eq_false h
    omega
  change Does Tryd.prog 23 _ _ _
  refine Does.alone 2 (pick a 16 (by decide) ?_)
  have hpa := pickZ_lt a (n := 16) (by decide)
  obtain ⟨n, hn⟩ := Int.eq_ofNat_of_zero_le (show 0 ≤ 1 + pickZ a 16 by omega)
  have hn16 : 1 ≤ n ∧ n ≤ 16 := by omega
  obtain ⟨z, hz, hws, hel, hsum, hpos⟩ := swp_fin hn16 (stepsL n ms)
  rw [swpP_cat] at hz
  change Does Tryd.prog 43 _ _ _
  rw [wrap_i64 (1 + pickZ a 16) (by omega) (by omega), hn]
  refine Does.on 3 [2, 0] _ _ (raced (p := [⟨1, 2, 5, 0, 0⟩, ⟨9, 3, 0, 1, 2⟩, ⟨16, 3, 3, 0, 0⟩, ⟨0, 0, 0, 0, 0⟩]) (ms := ms) rfl rfl hn16 (by omega) swp_right rfl fun u hu _ hw => ?_)
  rw [hz] at hw ⊢
  clear hz
  change Does Tryd.prog 36 _ _ _
  refine Does.on 12 [3, 4, 5, 6, 7, 8, 9, 10, 11] _ _ (coreEvents (m := z) (v := u) (by omega) ?_)
  refine SS.loop (fun i : Nat => i ≤ z.el.length) (fun i => [(0, i64 n), (5, cv (.ptr 3 0)), (6, i64 (sumV (z.el.take i))), (28, cv (.slc 12 0 z.el.length none false)), (29, i64 z.el.length), (30, i64 i)])
    (fun _ => [.rows true 2 (ms.map rowMove), rtH, .gone] ++ machS 3 z u ++ [.rows false 4 (z.el.map rowEv)]) (fun i => z.el.length - i) [2]
    (At.mk' [0, 5, 6, 28, 29, 30] 0 (Nat.zero_le _) ⟨rfl, rfl⟩ rfl rfl (by simp) (by simp) (by decide)) ?_
  intro i hi
  change i ≤ z.el.length at hi
  refine S_r ?_
  refine brc_intro (fun hlt => ?_) (fun hlt => ?_)
  · have hlt : i < z.el.length := by
      have := of_decide_eq_true hlt
      have : (i : Int) < (z.el.length : Int) := this
      omega
    obtain ⟨e, he⟩ : ∃ e, z.el[i]? = some e := ⟨_, List.getElem?_eq_getElem hlt⟩
    have hnx := sumV_take he
    have h1 := sumV_le (z.el.take i) fun x hx => hpos x (List.mem_of_mem_take hx)
    rw [List.length_take] at h1
    have h2 := hpos e (List.mem_of_getElem? he)
    refine at2 (a := (0 : Int) ≤ (i : Int)) (b := (i : Int) < (z.el.length : Int)) (by omega) (by omega) (rdA (rowEv e) (by simp [he]) ?_)
    refine At.mk' [0, 5, 6, 28, 29, 30] (i + 1) ⟨hlt, by omega⟩ ⟨?_, rfl⟩ rfl rfl (by simp) (by simp) (by decide)
    rw [wrap_i64 (i + 1) (by omega) (by omega), wrap_i64 (sumV (z.el.take i) + e.v) (by omega) (by omega), hnx]
    rfl
  · have hlt : ¬ (i : Int) < (z.el.length : Int) := of_decide_eq_false hlt
    obtain rfl : i = z.el.length := by omega
    rw [List.take_length]
    have hs : sumV z.el = 1 := hsum
    rw [hs]
    change Does Tryd.prog 36 _ _ _
    refine Does.on 13 [3, 4, 5, 6, 7, 8, 9, 10, 11] _ _ (coreEvents (m := z) (v := u) (by omega) ?_)
    refine brc_intro (fun _ => ?_) (fun h => ?_)
    · change Does Tryd.prog 33 _ _ _
      refine Does.on 14 [3, 4, 5, 6, 7, 8, 9, 10, 11] _ _ (coreCellsL (m := z) (v := u) hw hws ?_)
      change Does Tryd.prog 32 _ _ _
      refine Does.on 16 [14, 15] _ _ (equalU (xs := [5]) (ys := [5]) (by decide) (fun _ => ?_) fun h => absurd rfl h)
      exact rfl
    · exfalso
      have h : ((z.el.length : Int) == (n : Int)) = false := h
      rw [hel] at h
      simp at h

end Go.Mac
