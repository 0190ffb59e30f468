/- slices.Clone and slices.DeleteFunc of moves: those that wake for nothing are struck. -/
import Derived.Test.YtnhldphlkklfiaaGreatDoorGDanceF
open Go Go.Proofs Go.Mac
set_option maxRecDepth 100000
namespace Go.Mac

theorem gmv {l : List MoveZ} {i : Nat} {x : MoveZ} (h : l[i]? = some x) : (l.map rowMove)[0 + Int.toNat (i : Int)]? = some (rowMove x) := by simp [h]

section
variable {K : AV → List Nat → List PO → Prop}

theorem cloneMoves {l : List MoveZ} {n : Nat} {ro : Bool} (hl : l.length = n) (hn : n < 1000000) (h0 : n = 0 → K (cv .nilslc) [] [.rows ro 2 (l.map rowMove)]) (h : K (cv (.slc 1 0 n none true)) [] [.rows ro 2 (l.map rowMove), .rows false 2 (l.map rowMove)]) :
    Does Tryz.prog 44 [cv (.slc 0 0 n none false)] [.rows ro 2 (l.map rowMove)] K := by
  refine Does.nil0 (fun hz => ?_) ?_
  · refine does Tryz.func44 rfl (by decide) ?_
    exact h0 hz
  refine does Tryz.func44 rfl (by decide) ?_
  have e : List.take n (List.drop 0 (l.map rowMove)) = l.map rowMove := by rw [List.drop_zero, List.take_of_length_le]; simp; omega
  refine And.intro (by simp; omega) (Or.inl (And.intro rfl (And.intro (by simp) (And.intro ?_ (And.intro ?_ ?_)))))
  · rw [e, List.length_map, hl]
    show (0 + n) * 16 ≤ _
    omega
  · rw [e, List.length_map, hl]
    omega
  · rw [e]
    show K (cv (.slc 1 0 (0 + (l.map rowMove).length) none true)) [] [.rows ro 2 (l.map rowMove), .rows false 2 (l.map rowMove)]
    rw [Nat.zero_add, List.length_map, hl]
    exact h

abbrev noP (xs : List MoveZ) : List MoveZ := xs.filter fun x => !x.pk

theorem noP_take (xs : List MoveZ) (i : Nat) (x : MoveZ) (h : xs[i]? = some x) : noP (xs.take (i + 1)) = noP (xs.take i) ++ (if x.pk = true then [] else [x]) := by
  have : xs.take (i + 1) = xs.take i ++ [x] := by rw [List.take_add_one, h]; rfl
  rw [this, noP, List.filter_append]
  congr 1
  by_cases hx : x.pk = true <;> simp [hx]

theorem pokesM (x : MoveZ) (h : K (bl x.pk) [] []) : Does Tryz.prog 45 [.p (.agg [.f (.int .i64 x.th), .f (.bool x.pk)])] [] K := by
  refine does Tryz.func45 rfl (by decide) ?_
  exact h

theorem indexMoves {xs : List MoveZ} {c : Option Nat} {nn : Bool} {k : Nat} (hk : xs.length = k) (hn : k < 1000000)
    (h1 : ∀ (i : Nat) (x : MoveZ), xs[i]? = some x → x.pk = true → noP (xs.take i) = xs.take i → K (i64 i) [] [.rows false 2 (xs.map rowMove)]) (h0 : noP xs = xs → K (i64 (-1)) [] [.rows false 2 (xs.map rowMove)]) :
    Does Tryz.prog 74 [cv (.slc 0 0 k c nn), cv (.func 45 [])] [.rows false 2 (xs.map rowMove)] K := by
  refine does Tryz.func74 rfl (by decide) ?_
  refine SS.loop (fun i : Nat => i ≤ k ∧ noP (xs.take i) = xs.take i) (fun i => [(0, cv (.slc 0 0 k c nn)), (1, cv (.func 45 [])), (7, i64 k), (8, i64 i)]) (fun _ => [.rows false 2 (xs.map rowMove)]) (fun i => k - i) []
    (At.mk' [0, 1, 7, 8] 0 (by simp) ⟨rfl, rfl⟩ rfl rfl (by simp) (by simp) (by simp)) ?_
  rintro i ⟨hi, hj⟩
  refine S_r ?_
  refine brc_intro (fun h => ?_) (fun h => ?_)
  · have hlt : i < k := by have := of_decide_eq_true h; omega
    obtain ⟨x, hx⟩ : ∃ x, xs[i]? = some x := ⟨_, List.getElem?_eq_getElem (by omega)⟩
    refine SS.inlR ?_
    refine at2 (by omega) (by omega) (rdA (rowMove x) (gmv hx) ?_)
    change Does Tryz.prog 45 _ _ _
    refine Does.alone 1 (pokesM x ?_)
    refine brc_intro (fun h' => ?_) (fun h' => ?_)
    · exact h1 i x hx h' hj
    · have e : ¬ x.pk = true := by rw [show x.pk = false from h']; decide
      refine At.mk' [0, 1, 7, 8] (i + 1) ⟨⟨hlt, ?_⟩, by omega⟩ ⟨?_, rfl⟩ rfl rfl (by simp) (by simp) (by simp)
      · rw [noP_take xs i x hx, if_neg e, hj, List.take_add_one, hx]
        rfl
      · rw [wrap_i64 _ (by omega) (by omega)]
        rfl
  · have h := of_decide_eq_false h
    obtain rfl : k = i := by omega
    rw [List.take_of_length_le (by omega)] at hj
    exact h0 hj

theorem deleteMoves {xs : List MoveZ} {k : Nat} {nn0 : Bool} (hk : xs.length = k) (hn : k < 1000000)
    (h : ∀ (nn : Bool) (ex : List MoveZ), K (cv (.slc 0 0 (noP xs).length none nn)) [] [.rows false 2 ((noP xs ++ ex).map rowMove)]) :
    Does Tryz.prog 43 [cv (.slc 0 0 k none nn0), cv (.func 45 [])] [.rows false 2 (xs.map rowMove)] K := by
  refine does Tryz.func43 rfl (by decide) ?_
  change Does Tryz.prog 74 _ _ _
  refine indexMoves hk hn (fun i x0 hx hx0 hj => ?_) fun h0 => ?_
  · have hi := (List.getElem?_eq_some_iff.1 hx).1
    have hl : (noP (xs.take i)).length = i := by rw [hj, List.length_take]; omega
    refine SS.loop (fun p : Nat × List MoveZ => p.1 ≤ k ∧ (noP (xs.take p.1)).length + p.2.length = p.1 ∧ 1 ≤ p.2.length)
      (fun p => [(0, cv (.slc 0 0 k none nn0)), (1, cv (.func 45 [])), (5, i64 (noP (xs.take p.1)).length), (6, i64 p.1)])
      (fun p => [.rows false 2 ((noP (xs.take p.1) ++ p.2 ++ xs.drop p.1).map rowMove)]) (fun p => k - p.1) []
      (At.mk' [0, 1, 5, 6] (i + 1, [x0]) ⟨by show i + 1 ≤ k; omega, by rw [noP_take xs i x0 hx, if_pos hx0, List.append_nil]; simp [hl], by simp⟩ ⟨?_, rfl⟩ ?_ rfl (by simp) (by simp) (by simp)) ?_
    · rw [wrap_i64 _ (by omega) (by omega)]
      simp only [noP_take xs i x0 hx, if_pos hx0, List.append_nil, hl]
      rfl
    · show [PO.rows false 2 (xs.map rowMove)] = [PO.rows false 2 ((noP (xs.take (i + 1)) ++ [x0] ++ xs.drop (i + 1)).map rowMove)]
      rw [noP_take xs i x0 hx, if_pos hx0, List.append_nil, hj]
      have : xs = xs.take i ++ [x0] ++ xs.drop (i + 1) := by
        conv => lhs; rw [← List.take_append_drop i xs, List.drop_eq_getElem_cons hi, (List.getElem?_eq_some_iff.1 hx).2]
        simp
      rw [← this]
    clear hj hx hx0 hi hl i x0
    rintro ⟨j, junk⟩ ⟨hj, hjl, hj1⟩
    change j ≤ k at hj
    change (noP (xs.take j)).length + junk.length = j at hjl
    change 1 ≤ junk.length at hj1
    refine S_r ?_
    refine brc_intro (fun hlt => ?_) (fun hlt => ?_)
    · have hlt : j < k := by
        have := of_decide_eq_true hlt
        have : (j : Int) < k := this
        omega
      obtain ⟨x, hx⟩ : ∃ x, xs[j]? = some x := ⟨_, List.getElem?_eq_getElem (by omega)⟩
      have h3 : xs.drop j = x :: xs.drop (j + 1) := by
        rw [List.drop_eq_getElem_cons (by omega)]
        congr 1
        exact (List.getElem?_eq_some_iff.1 hx).2
      have hw := noP_take xs j x hx
      have hax : (noP (xs.take j) ++ junk ++ xs.drop j)[j]? = some x := by
        rw [List.getElem?_append_right (by simp; omega), h3]
        simp [hjl]
      refine SS.inlR ?_
      refine at2 (by show (0 : Int) ≤ (j : Int); omega) (by show (j : Int) < (k : Int); omega) (rdA (rowMove x) (gmv hax) ?_)
      change Does Tryz.prog 45 _ _ _
      refine Does.alone 2 (pokesM x ?_)
      refine brc_intro (fun h' => ?_) (fun h' => ?_)
      · have e : ¬ x.pk = true := fun h9 => by
          have h' : (!x.pk) = true := h'
          rw [h9] at h'; cases h'
        rw [if_neg e] at hw
        refine at2 (by omega) (by show ((noP (xs.take j)).length : Int) < (k : Int); omega) ?_
        obtain ⟨y, junk, rfl⟩ : ∃ y l, junk = y :: l := by
          cases junk with
          | nil => simp at hj1
          | cons y l => exact ⟨y, l, rfl⟩
        have hby : (noP (xs.take j) ++ (y :: junk) ++ xs.drop j)[(noP (xs.take j)).length]? = some y := by simp
        refine wr1 (rowMove y) (gmv hby) ?_
        refine At.mk' [0, 1, 5, 6] (j + 1, junk ++ [x]) ⟨⟨by show j + 1 ≤ k; omega, by show (noP (xs.take (j + 1))).length + (junk ++ [x]).length = j + 1; rw [hw]; simp at hjl ⊢; omega, by simp⟩, by show k - (j + 1) < k - j; omega⟩ ⟨?_, rfl⟩ ?_ rfl (by simp) (by simp) (by simp)
        · simp only [hw]
          rw [wrap_i64 _ (by omega) (by omega), wrap_i64 _ (by omega) (by omega), List.length_append]
          rfl
        · have hset : ((noP (xs.take j) ++ (y :: junk) ++ xs.drop j).map rowMove).set (0 + ((noP (xs.take j)).length : Int).toNat) (rowMove x) = (noP (xs.take j) ++ [x] ++ (junk ++ [x]) ++ xs.drop (j + 1)).map rowMove := by
            rw [h3, Nat.zero_add, Int.toNat_natCast]
            simp
          show PO.rows false 2 (((noP (xs.take j) ++ (y :: junk) ++ xs.drop j).map rowMove).set (0 + ((noP (xs.take j)).length : Int).toNat) (rowMove x)) :: _ = [PO.rows false 2 ((noP (xs.take (j + 1)) ++ (junk ++ [x]) ++ xs.drop (j + 1)).map rowMove)]
          rw [hset, hw]
          rfl
      · have e : x.pk = true := by
          have h' : (!x.pk) = false := h'
          simpa using h'
        rw [if_pos e, List.append_nil] at hw
        refine At.mk' [0, 1, 5, 6] (j + 1, junk ++ [x]) ⟨⟨by show j + 1 ≤ k; omega, by show (noP (xs.take (j + 1))).length + (junk ++ [x]).length = j + 1; rw [hw]; simp; omega, by simp⟩, by show k - (j + 1) < k - j; omega⟩ ⟨?_, rfl⟩ ?_ rfl (by simp) (by simp) (by simp)
        · simp only [hw]
          rw [wrap_i64 _ (by omega) (by omega)]
          rfl
        · show [PO.rows false 2 ((noP (xs.take j) ++ junk ++ xs.drop j).map rowMove)] = [PO.rows false 2 ((noP (xs.take (j + 1)) ++ (junk ++ [x]) ++ xs.drop (j + 1)).map rowMove)]
          rw [hw, h3]
          simp
    · have hlt : ¬ (j : Int) < (k : Int) := of_decide_eq_false hlt
      obtain rfl : k = j := by omega
      refine Or.inl (And.intro (by omega) (And.intro (by show ((noP (xs.take k)).length : Int) ≤ (k : Int); omega) ?_))
      have ht : xs.take k = xs := List.take_of_length_le (by omega)
      have h := h (nn0 || Nat.blt 0 k) (List.replicate junk.length ⟨0, false⟩)
      have hd : xs.drop k = [] := List.drop_eq_nil_iff.2 (by omega)
      have hr : (noP xs ++ List.replicate junk.length (⟨0, false⟩ : MoveZ)).map rowMove = ((noP (xs.take k) ++ junk ++ xs.drop k).map rowMove).take (0 + ((noP (xs.take k)).length : Int).toNat) ++
          List.replicate (k - ((noP (xs.take k)).length : Int).toNat) [.int .i64 0, .bool false] ++ ((noP (xs.take k) ++ junk ++ xs.drop k).map rowMove).drop (0 + ((noP (xs.take k)).length : Int).toNat + (k - ((noP (xs.take k)).length : Int).toNat)) := by
        rw [ht] at hjl ⊢
        have e1 : k - ((noP xs).length : Int).toNat = junk.length := by omega
        rw [hd, e1, Nat.zero_add, Int.toNat_natCast, List.append_nil, ← List.map_take, ← List.map_drop, List.take_left, ← List.drop_drop, List.drop_left]
        simp
      refine And.intro ?_ ?_
      · show (0 + ((noP (xs.take k)).length : Int).toNat) + (k - ((noP (xs.take k)).length : Int).toNat) ≤ ((noP (xs.take k) ++ junk ++ xs.drop k).map rowMove).length
        simp only [List.length_map, List.length_append]
        omega
      refine Or.inl (And.intro (by omega) (And.intro (by show ((noP (xs.take k)).length : Int) ≤ (k : Int); omega) ?_))
      rw [hr] at h
      simp only [ht] at h ⊢
      exact h
  · have := h nn0 []
    rw [h0, List.append_nil] at this
    subst hk
    exact this

end

end Go.Mac
