/- fair.Is. -/
import Derived.Test.YtnhldphlkklfiaaGreatDoorGBase
open Go Go.Proofs Go.Mac
set_option maxRecDepth 100000
namespace Go.Mac

theorem set_range_map {α : Type} {m j : Nat} (g g' : Nat → α) (x : α) (h : ∀ t, t < m → g' t = if t = j then x else g t) : ((List.range m).map g).set j x = (List.range m).map g' := by
  refine List.ext_getElem? fun t => ?_
  by_cases ht : t < m
  · rw [List.getElem?_set]
    simp only [List.length_map, List.length_range, List.getElem?_map, List.getElem?_range ht, Option.map_some]
    rw [h t ht]
    by_cases hj : j = t
    · subst hj; simp [ht]
    · rw [if_neg hj, if_neg (Ne.symm hj)]
  · rw [List.getElem?_eq_none (by simp; omega), List.getElem?_eq_none (by simp; omega)]

theorem replicate_range {α : Type} (m : Nat) (x : α) : List.replicate m x = (List.range m).map fun _ => x := by
  refine List.ext_getElem? fun t => ?_
  by_cases ht : t < m
  · simp [ht]
  · rw [List.getElem?_eq_none (by simp; omega), List.getElem?_eq_none (by simp; omega)]

theorem range_get {α : Type} {m t : Nat} (g : Nat → α) (h : t < m) : ((List.range m).map g)[t]? = some (g t) := by simp [h]

/-- The last of the first i picks that is t's, or -1. -/
def last (l : List Int) (t : Nat) : Nat → Int
  | 0 => -1
  | i + 1 => if l[i]? = some (t : Int) then (i : Int) else last l t i

theorem last_bounds (l : List Int) (t : Nat) : ∀ i : Nat, -1 ≤ last l t i ∧ last l t i < i
  | 0 => by simp [last]
  | i + 1 => by
    have := last_bounds l t i
    simp only [last]
    split <;> omega

theorem last_iff (l : List Int) (t : Nat) (j : Nat) : ∀ i : Nat, (j : Int) ≤ last l t i ↔ ∃ k, j ≤ k ∧ k < i ∧ l[k]? = some (t : Int)
  | 0 => by
    simp only [last]
    constructor
    · intro h; omega
    · rintro ⟨k, _, h, _⟩; omega
  | i + 1 => by
    have ih := last_iff l t j i
    simp only [last]
    split
    · rename_i h
      constructor
      · intro hj; exact ⟨i, by omega, by omega, h⟩
      · rintro ⟨k, h1, h2, _⟩; omega
    · rename_i h
      rw [ih]
      constructor
      · rintro ⟨k, h1, h2, h3⟩; exact ⟨k, h1, by omega, h3⟩
      · rintro ⟨k, h1, h2, h3⟩
        refine ⟨k, h1, ?_, h3⟩
        rcases Nat.lt_succ_iff_lt_or_eq.1 h2 with h4 | rfl
        · exact h4
        · exact absurd h3 h

/-- Each of n is picked at least once in any w picks. -/
def Fair (l : List Int) (n w : Int) : Prop := 0 ≤ n ∧ n ≤ 16 ∧ 1 ≤ w ∧ ∀ i : Nat, i < l.length → ∀ t : Nat, (t : Int) < n → (i : Int) - last l t (i + 1) < w

theorem gap_iff (l : List Int) (t i : Nat) (w : Int) : (i : Int) - last l t (i + 1) < w ↔ (i : Int) + 1 < w ∨ ∃ k : Nat, k ≤ i ∧ (i : Int) - k < w ∧ l[k]? = some (t : Int) := by
  have hb := last_bounds l t (i + 1)
  constructor
  · intro h
    rcases Int.lt_or_le (last l t (i + 1)) 0 with h0 | h0
    · left; omega
    · right
      obtain ⟨j, hj⟩ := Int.eq_ofNat_of_zero_le h0
      obtain ⟨k, h1, h2, h3⟩ := (last_iff l t j (i + 1)).1 (by omega)
      exact ⟨k, by omega, by omega, h3⟩
  · rintro (h | ⟨k, h1, h2, h3⟩)
    · omega
    · have := (last_iff l t k (i + 1)).2 ⟨k, Nat.le_refl _, by omega, h3⟩
      omega

section
variable {K : AV → List Nat → List PO → Prop}

theorem fairIs {ro : Bool} {all l : List Int} {o : Nat} {c : Option Nat} {nn : Bool} (n w : Int) (hl : ∀ i, i < l.length → all[o + i]? = l[i]?) (hlen : l.length < 4611686018427387904) (hw : -4611686018427387904 ≤ w ∧ w ≤ 4611686018427387904)
    (hK : ∀ b : Bool, (b = true ↔ Fair l n w) → K (bl b) [] [.rows ro 1 (all.map rowZ)]) : Does Tryz.prog 49 [cv (.slc 0 o l.length c nn), i64 n, i64 w] [.rows ro 1 (all.map rowZ)] K := by
  refine does Tryz.func49 rfl (by decide) ?_
  refine brc_intro (fun h => ?_) (fun h1 => ?_)
  · have h := of_decide_eq_true h
    exact hK false ⟨fun h => (by cases h), fun hf => (by have := hf.1; omega)⟩
  have h1 := of_decide_eq_false h1
  refine brc_intro (fun h => ?_) (fun h2 => ?_)
  · have h := of_decide_eq_true h
    exact hK false ⟨fun h => (by cases h), fun hf => (by have := hf.2.1; omega)⟩
  have h2 := of_decide_eq_false h2
  refine brc_intro (fun h => ?_) (fun h3 => ?_)
  · have h := of_decide_eq_true h
    exact hK false ⟨fun h => (by cases h), fun hf => (by have := hf.2.2.1; omega)⟩
  have h3 := of_decide_eq_false h3
  obtain ⟨m, rfl⟩ := Int.eq_ofNat_of_zero_le (show 0 ≤ n by omega)
  refine And.intro (by omega) (And.intro (by omega) (And.intro ?_ (And.intro ?_ ?_)))
  · show (8 : Int) * m ≤ _
    omega
  · omega
  refine SS.loop (fun i : Nat => i ≤ m) (fun i => [(0, cv (.slc 0 o l.length c nn)), (1, i64 m), (2, i64 w), (7, cv (.slc 1 0 m none true)), (26, i64 m), (27, i64 i)])
    (fun i => [.rows ro 1 (all.map rowZ), .rows false 1 ((List.range m).map fun t => rowZ (if t < i then -1 else 0))]) (fun i => m - i) []
    (At.mk' [0, 1, 2, 7, 26, 27] 0 (by simp) ⟨rfl, rfl⟩ (congrArg (fun r => ([.rows ro 1 (all.map rowZ), .rows false 1 r] : List PO)) ((replicate_range m (rowZ 0)).trans (by simp))) rfl (by simp) (by simp) (by simp)) ?_
  · intro i hi
    refine S_r ?_
    refine brc_intro (fun h => ?_) (fun h => ?_)
    · have h := of_decide_eq_true h
      have hlt : i < m := by omega
      refine at2 (by omega) (by omega) (wr1 (rowZ 0) (by simp [hlt]) ?_)
      refine At.mk' [0, 1, 2, 7, 26, 27] (i + 1) ⟨hlt, by omega⟩ ⟨?_, rfl⟩ (congrArg (fun r => ([.rows ro 1 (all.map rowZ), .rows false 1 r] : List PO)) (set_range_map _ _ _ fun t _ => ?_)) rfl (by simp) (by simp) (by simp)
      · rw [wrap_i64 _ (by omega) (by omega)]
        rfl
      · rw [show 0 + Int.toNat (i : Int) = i by simp]
        rcases Nat.lt_trichotomy t i with h | rfl | h
        · simp [show t < i + 1 by omega, show t ≠ i by omega, h]
        · simp
        · simp [show ¬ t < i + 1 by omega, show t ≠ i by omega, show ¬ t < i by omega]
    · have h := of_decide_eq_false h
      obtain rfl : m = i := by omega
      refine SS.loop (fun j : Nat => j ≤ l.length ∧ ∀ x : Nat, x < j → ∀ t : Nat, t < m → (x : Int) - last l t (x + 1) < w)
        (fun j => [(1, i64 m), (2, i64 w), (7, cv (.slc 1 0 m none true)), (34, cv (.slc 0 o l.length c nn)), (35, i64 l.length), (36, i64 j)])
        (fun j => [.rows ro 1 (all.map rowZ), .rows false 1 ((List.range m).map fun t => rowZ (last l t j))]) (fun j => l.length - j) []
        (At.mk' [1, 2, 7, 34, 35, 36] 0 (by simp) ⟨rfl, rfl⟩ (congrArg (fun r => ([.rows ro 1 (all.map rowZ), .rows false 1 r] : List PO)) (List.map_congr_left fun t ht => (by simp at ht; simp [ht, last]))) rfl (by simp) (by simp) (by simp)) ?_
      clear hi
      rintro i ⟨hi, hd⟩
      refine S_r ?_
      refine brc_intro (fun h => ?_) (fun h => ?_)
      · have h := of_decide_eq_true h
        have hlt : i < l.length := by omega
        obtain ⟨x, hx⟩ : ∃ x, l[i]? = some x := ⟨_, List.getElem?_eq_getElem hlt⟩
        have hax : all[o + i]? = some x := (hl i hlt).trans hx
        refine SS.inlR ?_
        refine at2 (by omega) (by omega) (rd1 (rowZ x) (.int .i64 x) (by simp [hax]) rfl ?_)
        refine brc_intro (fun h0 => ?_) (fun h0 => ?_)
        · have h0 := of_decide_eq_true h0
          refine brc_intro (fun h1 => ?_) (fun h1 => ?_)
          · have h1 := of_decide_eq_true h1
            obtain ⟨y, rfl⟩ := Int.eq_ofNat_of_zero_le h0
            refine at2 (by omega) (by omega) (wr1 (rowZ (last l y i)) (by rw [show 0 + Int.toNat (y : Int) = y by simp]; exact range_get _ (by omega)) ?_)
            refine SS.loop (fun k : Nat => k ≤ m ∧ ∀ t : Nat, t < k → (i : Int) - last l t (i + 1) < w)
              (fun k => [(1, i64 m), (2, i64 w), (7, cv (.slc 1 0 m none true)), (34, cv (.slc 0 o l.length c nn)), (35, i64 l.length), (36, i64 i), (9, i64 i), (53, cv (.slc 1 0 m none true)), (54, i64 m), (55, i64 k)])
              (fun _ => [.rows ro 1 (all.map rowZ), .rows false 1 ((List.range m).map fun t => rowZ (last l t (i + 1)))]) (fun k => m - k) []
              (At.mk' [1, 2, 7, 34, 35, 36, 9, 53, 54, 55] 0 (by simp) ⟨rfl, rfl⟩ (congrArg (fun r => ([.rows ro 1 (all.map rowZ), .rows false 1 r] : List PO)) (set_range_map _ _ _ fun t ht => (by
                rw [show 0 + Int.toNat (y : Int) = y by simp]
                by_cases hty : t = y
                · subst hty; simp [last, hx]
                · have : (y : Int) ≠ t := by omega
                  simp [last, hx, hty, this]))) rfl (by simp) (by simp) (by simp)) ?_
            rintro k ⟨hk, hkt⟩
            refine S_r ?_
            refine brc_intro (fun h => ?_) (fun h => ?_)
            · have h := of_decide_eq_true h
              have hkm : k < m := by omega
              refine SS.inlR ?_
              refine at2 (by omega) (by omega) (rd1 (rowZ (last l k (i + 1))) (.int .i64 (last l k (i + 1))) (by simp [hkm]) rfl ?_)
              have hb := last_bounds l k (i + 1)
              have ew : IntKind.i64.wrap ((i : Int) - last l k (i + 1)) = (i : Int) - last l k (i + 1) := wrap_i64 _ (by omega) (by omega)
              refine brc_intro (fun h' => ?_) (fun h' => ?_)
              · have h' := of_decide_eq_true h'
                rw [ew] at h'
                exact hK false ⟨fun h => (by cases h), fun hf => (by have := hf.2.2.2 i hlt k (by omega); omega)⟩
              · have h' := of_decide_eq_false h'
                rw [ew] at h'
                refine At.mk' [1, 2, 7, 34, 35, 36, 9, 53, 54, 55] (k + 1) ⟨⟨hkm, fun t ht => ?_⟩, by omega⟩ ⟨?_, rfl⟩ rfl rfl (by simp) (by simp) (by simp)
                · rcases Nat.lt_succ_iff_lt_or_eq.1 ht with h | rfl
                  · exact hkt t h
                  · omega
                · rw [wrap_i64 _ (by omega) (by omega)]
                  rfl
            · have h := of_decide_eq_false h
              refine At.mk' [1, 2, 7, 34, 35, 36] (i + 1) ⟨⟨hlt, fun j hj t ht => ?_⟩, by omega⟩ ⟨?_, rfl⟩ rfl rfl (by simp) (by simp) (by simp)
              · rcases Nat.lt_succ_iff_lt_or_eq.1 hj with h | rfl
                · exact hd j h t ht
                · exact hkt t (by omega)
              · rw [wrap_i64 _ (by omega) (by omega)]
                rfl
          · have h1 := of_decide_eq_false h1
            refine SS.loop (fun k : Nat => k ≤ m ∧ ∀ t : Nat, t < k → (i : Int) - last l t (i + 1) < w)
              (fun k => [(1, i64 m), (2, i64 w), (7, cv (.slc 1 0 m none true)), (34, cv (.slc 0 o l.length c nn)), (35, i64 l.length), (36, i64 i), (9, i64 i), (53, cv (.slc 1 0 m none true)), (54, i64 m), (55, i64 k)])
              (fun _ => [.rows ro 1 (all.map rowZ), .rows false 1 ((List.range m).map fun t => rowZ (last l t (i + 1)))]) (fun k => m - k) []
              (At.mk' [1, 2, 7, 34, 35, 36, 9, 53, 54, 55] 0 (by simp) ⟨rfl, rfl⟩ (congrArg (fun r => ([.rows ro 1 (all.map rowZ), .rows false 1 r] : List PO)) (List.map_congr_left fun t ht => (by
                simp at ht
                simp [last, hx, show x ≠ (t : Int) by omega]))) rfl (by simp) (by simp) (by simp)) ?_
            rintro k ⟨hk, hkt⟩
            refine S_r ?_
            refine brc_intro (fun h => ?_) (fun h => ?_)
            · have h := of_decide_eq_true h
              have hkm : k < m := by omega
              refine SS.inlR ?_
              refine at2 (by omega) (by omega) (rd1 (rowZ (last l k (i + 1))) (.int .i64 (last l k (i + 1))) (by simp [hkm]) rfl ?_)
              have hb := last_bounds l k (i + 1)
              have ew : IntKind.i64.wrap ((i : Int) - last l k (i + 1)) = (i : Int) - last l k (i + 1) := wrap_i64 _ (by omega) (by omega)
              refine brc_intro (fun h' => ?_) (fun h' => ?_)
              · have h' := of_decide_eq_true h'
                rw [ew] at h'
                exact hK false ⟨fun h => (by cases h), fun hf => (by have := hf.2.2.2 i hlt k (by omega); omega)⟩
              · have h' := of_decide_eq_false h'
                rw [ew] at h'
                refine At.mk' [1, 2, 7, 34, 35, 36, 9, 53, 54, 55] (k + 1) ⟨⟨hkm, fun t ht => ?_⟩, by omega⟩ ⟨?_, rfl⟩ rfl rfl (by simp) (by simp) (by simp)
                · rcases Nat.lt_succ_iff_lt_or_eq.1 ht with h | rfl
                  · exact hkt t h
                  · omega
                · rw [wrap_i64 _ (by omega) (by omega)]
                  rfl
            · have h := of_decide_eq_false h
              refine At.mk' [1, 2, 7, 34, 35, 36] (i + 1) ⟨⟨hlt, fun j hj t ht => ?_⟩, by omega⟩ ⟨?_, rfl⟩ rfl rfl (by simp) (by simp) (by simp)
              · rcases Nat.lt_succ_iff_lt_or_eq.1 hj with h | rfl
                · exact hd j h t ht
                · exact hkt t (by omega)
              · rw [wrap_i64 _ (by omega) (by omega)]
                rfl
        · have h0 := of_decide_eq_false h0
          refine SS.loop (fun k : Nat => k ≤ m ∧ ∀ t : Nat, t < k → (i : Int) - last l t (i + 1) < w)
            (fun k => [(1, i64 m), (2, i64 w), (7, cv (.slc 1 0 m none true)), (34, cv (.slc 0 o l.length c nn)), (35, i64 l.length), (36, i64 i), (9, i64 i), (53, cv (.slc 1 0 m none true)), (54, i64 m), (55, i64 k)])
            (fun _ => [.rows ro 1 (all.map rowZ), .rows false 1 ((List.range m).map fun t => rowZ (last l t (i + 1)))]) (fun k => m - k) []
            (At.mk' [1, 2, 7, 34, 35, 36, 9, 53, 54, 55] 0 (by simp) ⟨rfl, rfl⟩ (congrArg (fun r => ([.rows ro 1 (all.map rowZ), .rows false 1 r] : List PO)) (List.map_congr_left fun t ht => (by
              simp [last, hx, show x ≠ (t : Int) by omega]))) rfl (by simp) (by simp) (by simp)) ?_
          rintro k ⟨hk, hkt⟩
          refine S_r ?_
          refine brc_intro (fun h => ?_) (fun h => ?_)
          · have h := of_decide_eq_true h
            have hkm : k < m := by omega
            refine SS.inlR ?_
            refine at2 (by omega) (by omega) (rd1 (rowZ (last l k (i + 1))) (.int .i64 (last l k (i + 1))) (by simp [hkm]) rfl ?_)
            have hb := last_bounds l k (i + 1)
            have ew : IntKind.i64.wrap ((i : Int) - last l k (i + 1)) = (i : Int) - last l k (i + 1) := wrap_i64 _ (by omega) (by omega)
            refine brc_intro (fun h' => ?_) (fun h' => ?_)
            · have h' := of_decide_eq_true h'
              rw [ew] at h'
              exact hK false ⟨fun h => (by cases h), fun hf => (by have := hf.2.2.2 i hlt k (by omega); omega)⟩
            · have h' := of_decide_eq_false h'
              rw [ew] at h'
              refine At.mk' [1, 2, 7, 34, 35, 36, 9, 53, 54, 55] (k + 1) ⟨⟨hkm, fun t ht => ?_⟩, by omega⟩ ⟨?_, rfl⟩ rfl rfl (by simp) (by simp) (by simp)
              · rcases Nat.lt_succ_iff_lt_or_eq.1 ht with h | rfl
                · exact hkt t h
                · omega
              · rw [wrap_i64 _ (by omega) (by omega)]
                rfl
          · have h := of_decide_eq_false h
            refine At.mk' [1, 2, 7, 34, 35, 36] (i + 1) ⟨⟨hlt, fun j hj t ht => ?_⟩, by omega⟩ ⟨?_, rfl⟩ rfl rfl (by simp) (by simp) (by simp)
            · rcases Nat.lt_succ_iff_lt_or_eq.1 hj with h | rfl
              · exact hd j h t ht
              · exact hkt t (by omega)
            · rw [wrap_i64 _ (by omega) (by omega)]
              rfl
      · have h := of_decide_eq_false h
        exact hK true ⟨fun _ => ⟨by omega, by omega, by omega, fun j hj t ht => hd j (by omega) t (by omega)⟩, fun _ => rfl⟩

end
end Go.Mac
