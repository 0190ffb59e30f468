/- slices.DeleteFunc and slices.Clone of numbers. -/
import Derived.Test.YteblgbclhaajpaaQPark
open Go Go.Proofs Go.Mac
set_option maxRecDepth 100000
namespace Go.Mac

theorem gz {l : List Int} {i : Nat} {x : Int} (h : l[i]? = some x) : (l.map rowZ)[0 + Int.toNat (i : Int)]? = some (rowZ x) := by simp [h]

section
variable {K : AV → List Nat → List PO → Prop}

theorem cloneInts {xs : List Int} {ro : Bool} (hn : xs.length < 1000000) (h : K (cv (.slc 1 0 xs.length none true)) [] [.rows ro 1 (xs.map rowZ), .rows false 1 (xs.map rowZ)]) :
    Does Try.prog 29 [cv (.slc 0 0 xs.length none true)] [.rows ro 1 (xs.map rowZ)] K := by
  refine does Try.func29 rfl (by decide) ?_
  refine And.intro (by simp) ?_
  have hx : ((xs.map rowZ).drop 0).take xs.length = xs.map rowZ := by rw [List.drop_zero]; exact List.take_of_length_le (by simp)
  rw [hx]
  refine Or.inl (And.intro rfl (And.intro rfl (And.intro ?_ (And.intro ?_ ?_))))
  · show (0 + (xs.map rowZ).length) * 8 ≤ _
    simp
    omega
  · simp
    omega
  · have e : 0 + (xs.map rowZ).length = xs.length := by simp
    rw [e]
    exact h

theorem pokes1 (x t : Int) (h : K (bl (x == t)) [] [.one [.f (.int .i64 t)]]) : Does Try.prog 30 [i64 x, cv (.ptr 0 0)] [.one [.f (.int .i64 t)]] K := by
  refine does Try.func30 rfl (by decide) ?_
  exact h

abbrev noI (t : Int) (xs : List Int) : List Int := xs.filter fun x => !(x == t)

theorem noI_take (t : Int) (xs : List Int) (i : Nat) (x : Int) (h : xs[i]? = some x) : noI t (xs.take (i + 1)) = noI t (xs.take i) ++ (if x = t then [] else [x]) := by
  have : xs.take (i + 1) = xs.take i ++ [x] := by rw [List.take_add_one, h]; rfl
  rw [this, noI, List.filter_append]
  congr 1
  by_cases hx : x = t <;> simp [hx]

theorem indexInts {xs : List Int} {c : Option Nat} {nn : Bool} (t : Int) {k : Nat} (hk : xs.length = k) (hn : k < 1000000)
    (h1 : ∀ i : Nat, xs[i]? = some t → noI t (xs.take i) = xs.take i → K (i64 i) [] [.rows false 1 (xs.map rowZ), .one [.f (.int .i64 t)]]) (h0 : noI t xs = xs → K (i64 (-1)) [] [.rows false 1 (xs.map rowZ), .one [.f (.int .i64 t)]]) :
    Does Try.prog 43 [cv (.slc 0 0 k c nn), cv (.func 30 [1])] [.rows false 1 (xs.map rowZ), .one [.f (.int .i64 t)]] K := by
  refine does Try.func43 rfl (by decide) ?_
  refine SS.loop (fun i : Nat => i ≤ k ∧ noI t (xs.take i) = xs.take i) (fun i => [(0, cv (.slc 0 0 k c nn)), (1, cv (.func 30 [1])), (7, i64 k), (8, i64 i)]) (fun _ => [.rows false 1 (xs.map rowZ), .one [.f (.int .i64 t)]]) (fun i => k - i) []
    (At.mk' [0, 1, 7, 8] 0 (by simp) ⟨rfl, rfl⟩ rfl rfl (by simp) (by simp) (by simp)) ?_
  rintro i ⟨hi, hj⟩
  refine S_r ?_
  refine brc_intro (fun h => ?_) (fun h => ?_)
  · have hlt : i < k := by have := of_decide_eq_true h; omega
    obtain ⟨x, hx⟩ : ∃ x, xs[i]? = some x := ⟨_, List.getElem?_eq_getElem (by omega)⟩
    refine SS.inlR ?_
    refine at2 (by omega) (by omega) (rd1 (rowZ x) (.int .i64 x) (gz hx) rfl ?_)
    change Does Try.prog 30 _ _ _
    refine Does.on 2 [1] _ _ (pokes1 x t ?_)
    refine brc_intro (fun h' => ?_) (fun h' => ?_)
    · have e : x = t := by simpa using h'
      rw [e] at hx
      exact h1 i hx hj
    · have e : x ≠ t := by simpa using h'
      refine At.mk' [0, 1, 7, 8] (i + 1) ⟨⟨hlt, ?_⟩, by omega⟩ ⟨?_, rfl⟩ rfl rfl (by simp) (by simp) (by simp)
      · rw [noI_take t xs i x hx, if_neg e, hj, List.take_add_one, hx]
        rfl
      · rw [wrap_i64 _ (by omega) (by omega)]
        rfl
  · have h := of_decide_eq_false h
    obtain rfl : k = i := by omega
    rw [List.take_of_length_le (by omega)] at hj
    exact h0 hj

theorem deleteInts {xs : List Int} (t : Int) {k : Nat} (hk : xs.length = k) (hn : k < 1000000)
    (h : ∀ (nn : Bool) (ex : List Int), K (cv (.slc 0 0 (noI t xs).length none nn)) [] [.rows false 1 ((noI t xs ++ ex).map rowZ), .one [.f (.int .i64 t)]]) :
    Does Try.prog 28 [cv (.slc 0 0 k none true), cv (.func 30 [1])] [.rows false 1 (xs.map rowZ), .one [.f (.int .i64 t)]] K := by
  refine does Try.func28 rfl (by decide) ?_
  change Does Try.prog 43 _ _ _
  refine indexInts t hk hn (fun i hx hj => ?_) fun h0 => ?_
  · have hi := (List.getElem?_eq_some_iff.1 hx).1
    have hl : (noI t (xs.take i)).length = i := by rw [hj, List.length_take]; omega
    refine SS.loop (fun p : Nat × List Int => p.1 ≤ k ∧ (noI t (xs.take p.1)).length + p.2.length = p.1 ∧ 1 ≤ p.2.length)
      (fun p => [(0, cv (.slc 0 0 k none true)), (1, cv (.func 30 [1])), (5, i64 (noI t (xs.take p.1)).length), (6, i64 p.1)])
      (fun p => [.rows false 1 ((noI t (xs.take p.1) ++ p.2 ++ xs.drop p.1).map rowZ), .one [.f (.int .i64 t)]]) (fun p => k - p.1) []
      (At.mk' [0, 1, 5, 6] (i + 1, [t]) ⟨by show i + 1 ≤ k; omega, by rw [noI_take t xs i t hx, if_pos rfl, List.append_nil]; simp [hl], by simp⟩ ⟨?_, rfl⟩ ?_ rfl (by simp) (by simp) (by simp)) ?_
    · rw [wrap_i64 _ (by omega) (by omega)]
      simp only [noI_take t xs i t hx, if_pos, List.append_nil, hl]
      rfl
    · show [PO.rows false 1 (xs.map rowZ), .one [.f (.int .i64 t)]] = [PO.rows false 1 ((noI t (xs.take (i + 1)) ++ [t] ++ xs.drop (i + 1)).map rowZ), .one [.f (.int .i64 t)]]
      rw [noI_take t xs i t hx, if_pos rfl, List.append_nil, hj]
      have : xs = xs.take i ++ [t] ++ xs.drop (i + 1) := by
        conv => lhs; rw [← List.take_append_drop i xs, List.drop_eq_getElem_cons hi, (List.getElem?_eq_some_iff.1 hx).2]
        simp
      rw [← this]
    clear hj hx hi hl i
    rintro ⟨j, junk⟩ ⟨hj, hjl, hj1⟩
    change j ≤ k at hj
    change (noI t (xs.take j)).length + junk.length = j at hjl
    change 1 ≤ junk.length at hj1
    refine S_r ?_
    refine brc_intro (fun hlt => ?_) (fun hlt => ?_)
    · have hlt : j < k := by
        have := of_decide_eq_true hlt
        have : (j : Int) < k := this
        omega
      obtain ⟨x, hx⟩ : ∃ x, xs[j]? = some x := ⟨_, List.getElem?_eq_getElem (by omega)⟩
      have h3 : xs.drop j = x :: xs.drop (j + 1) := by
        rw [List.drop_eq_getElem_cons (by omega)]
        congr 1
        exact (List.getElem?_eq_some_iff.1 hx).2
      have hw := noI_take t xs j x hx
      have hax : (noI t (xs.take j) ++ junk ++ xs.drop j)[j]? = some x := by
        rw [List.getElem?_append_right (by simp; omega), h3]
        simp [hjl]
      refine SS.inlR ?_
      refine at2 (by show (0 : Int) ≤ (j : Int); omega) (by show (j : Int) < (k : Int); omega) (rd1 (rowZ x) (.int .i64 x) (gz hax) rfl ?_)
      change Does Try.prog 30 _ _ _
      refine Does.on 2 [1] _ _ (pokes1 x t ?_)
      refine brc_intro (fun h' => ?_) (fun h' => ?_)
      · have e : x ≠ t := by simpa using h'
        rw [if_neg e] at hw
        refine at2 (by omega) (by show ((noI t (xs.take j)).length : Int) < (k : Int); omega) ?_
        obtain ⟨y, junk, rfl⟩ : ∃ y l, junk = y :: l := by
          cases junk with
          | nil => simp at hj1
          | cons y l => exact ⟨y, l, rfl⟩
        have hby : (noI t (xs.take j) ++ (y :: junk) ++ xs.drop j)[(noI t (xs.take j)).length]? = some y := by simp
        refine wr1 (rowZ y) (gz hby) ?_
        refine At.mk' [0, 1, 5, 6] (j + 1, junk ++ [x]) ⟨⟨by show j + 1 ≤ k; omega, by show (noI t (xs.take (j + 1))).length + (junk ++ [x]).length = j + 1; rw [hw]; simp at hjl ⊢; omega, by simp⟩, by show k - (j + 1) < k - j; omega⟩ ⟨?_, rfl⟩ ?_ rfl (by simp) (by simp) (by simp)
        · simp only [hw]
          rw [wrap_i64 _ (by omega) (by omega), wrap_i64 _ (by omega) (by omega), List.length_append]
          rfl
        · have hset : ((noI t (xs.take j) ++ (y :: junk) ++ xs.drop j).map rowZ).set (0 + ((noI t (xs.take j)).length : Int).toNat) (rowZ x) = (noI t (xs.take j) ++ [x] ++ (junk ++ [x]) ++ xs.drop (j + 1)).map rowZ := by
            rw [h3, Nat.zero_add, Int.toNat_natCast]
            simp
          show PO.rows false 1 (((noI t (xs.take j) ++ (y :: junk) ++ xs.drop j).map rowZ).set (0 + ((noI t (xs.take j)).length : Int).toNat) (rowZ x)) :: _ = [PO.rows false 1 ((noI t (xs.take (j + 1)) ++ (junk ++ [x]) ++ xs.drop (j + 1)).map rowZ), .one [.f (.int .i64 t)]]
          rw [hset, hw]
          rfl
      · have e : x = t := by simpa using h'
        rw [if_pos e, List.append_nil] at hw
        refine At.mk' [0, 1, 5, 6] (j + 1, junk ++ [x]) ⟨⟨by show j + 1 ≤ k; omega, by show (noI t (xs.take (j + 1))).length + (junk ++ [x]).length = j + 1; rw [hw]; simp; omega, by simp⟩, by show k - (j + 1) < k - j; omega⟩ ⟨?_, rfl⟩ ?_ rfl (by simp) (by simp) (by simp)
        · simp only [hw]
          rw [wrap_i64 _ (by omega) (by omega)]
          rfl
        · show [PO.rows false 1 ((noI t (xs.take j) ++ junk ++ xs.drop j).map rowZ), .one [.f (.int .i64 t)]] = [PO.rows false 1 ((noI t (xs.take (j + 1)) ++ (junk ++ [x]) ++ xs.drop (j + 1)).map rowZ), .one [.f (.int .i64 t)]]
          rw [hw, h3]
          simp
    · have hlt : ¬ (j : Int) < (k : Int) := of_decide_eq_false hlt
      obtain rfl : k = j := by omega
      refine Or.inl (And.intro (by omega) (And.intro (by show ((noI t (xs.take k)).length : Int) ≤ (k : Int); omega) ?_))
      have ht : xs.take k = xs := List.take_of_length_le (by omega)
      have h := h true (List.replicate junk.length 0)
      have hd : xs.drop k = [] := List.drop_eq_nil_iff.2 (by omega)
      have hr : (noI t xs ++ List.replicate junk.length (0 : Int)).map rowZ = ((noI t (xs.take k) ++ junk ++ xs.drop k).map rowZ).take (0 + ((noI t (xs.take k)).length : Int).toNat) ++
          List.replicate (k - ((noI t (xs.take k)).length : Int).toNat) [.int .i64 0] ++ ((noI t (xs.take k) ++ junk ++ xs.drop k).map rowZ).drop (0 + ((noI t (xs.take k)).length : Int).toNat + (k - ((noI t (xs.take k)).length : Int).toNat)) := by
        rw [ht] at hjl ⊢
        have e1 : k - ((noI t xs).length : Int).toNat = junk.length := by omega
        rw [hd, e1, Nat.zero_add, Int.toNat_natCast, List.append_nil, ← List.map_take, ← List.map_drop, List.take_left, ← List.drop_drop, List.drop_left]
        simp
      refine And.intro ?_ ?_
      · show (0 + ((noI t (xs.take k)).length : Int).toNat) + (k - ((noI t (xs.take k)).length : Int).toNat) ≤ ((noI t (xs.take k) ++ junk ++ xs.drop k).map rowZ).length
        simp only [List.length_map, List.length_append]
        omega
      refine Or.inl (And.intro (by omega) (And.intro (by show ((noI t (xs.take k)).length : Int) ≤ (k : Int); omega) ?_))
      rw [hr] at h
      simp only [ht] at h ⊢
      exact h
  · have := h true []
    rw [h0, List.append_nil] at this
    subst hk
    exact this

end
end Go.Mac
