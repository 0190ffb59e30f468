/- The judge's law on any order: a turn. -/
import Derived.Test.YteblgbclhaajpaaDoorQJudgeInv
open Go Go.Proofs Go.Mac
set_option maxRecDepth 100000
namespace Go.Mac

theorem wrap_u64_lt (a : Int) : 0 ≤ IntKind.u64.wrap a ∧ IntKind.u64.wrap a < 18446744073709551616 := by
  rw [wrap_u64_mod]
  exact ⟨Int.emod_nonneg _ (by decide), Int.emod_lt_of_pos _ (by decide)⟩

/-- The numbers below n. -/
def upTo (n : Nat) : List Int := (List.range n).map Int.ofNat

theorem upTo_len (n : Nat) : (upTo n).length = n := by simp [upTo]
theorem upTo_mem {n : Nat} {x : Int} (h : x ∈ upTo n) : 0 ≤ x ∧ x < n := by
  obtain ⟨i, hi, rfl⟩ := List.mem_map.1 h
  have := List.mem_range.1 hi
  exact ⟨by simp, by simpa using this⟩
theorem upTo_succ (n : Nat) : upTo (n + 1) = upTo n ++ [(n : Int)] := by
  unfold upTo
  rw [List.range_succ, List.map_append]
  rfl

abbrev turnH (n s : Int) (k : Nat) (nn : Bool) (l : List EvZ) : List PO := [.one [.f (.int .i64 n)], .one [.f (.int .u64 s)], .one [.slc 3 0 k none nn], .rows false 4 (l.map rowEv)]

section
variable {K : AV → List Nat → List PO → Prop}

theorem turn (what v : Int) {n : Nat} (hn : 1 ≤ n ∧ n ≤ 16) {s : Int} {k : Nat} {nn : Bool} {l : List EvZ} (hl : l.length = k) (hk : k < 1000)
    (h : ∀ (s' : Int) (nn' : Bool) (p : List Int), p.Perm (upTo n) → K (.tup []) [3] (turnH n s' (k + n) nn' (l ++ p.map fun t => ⟨0, what, t, v⟩))) :
    Does Tryd.prog 9 [i64 what, i64 v, cv (.ptr 0 0), cv (.ptr 1 0), cv (.ptr 2 0)] (turnH n s k nn l) K := by
  refine Does.moved [3] ?_
  refine does Tryd.func9 rfl (by decide) ?_
  have b1 : (0 : Int) ≤ (n : Int) := by omega
  have b2 : (n : Int) ≤ (n : Int) := by omega
  have b3 : ((8 : Nat) : Int) * (n : Int) ≤ 281474976710656 := by omega
  have b4 : (n : Int) ≤ 9223372036854775807 := by omega
  refine And.intro b1 (And.intro b2 (And.intro b3 (And.intro b4 ?_)))
  refine SS.loop (fun i : Nat => i ≤ n) (fun i => [(0, i64 what), (1, i64 v), (2, cv (.ptr 0 0)), (3, cv (.ptr 1 0)), (4, cv (.ptr 2 0)), (7, cv (.slc 4 0 n none true)), (15, cv (.slc 4 0 n none true)), (16, i64 n), (17, i64 i)])
    (fun i => turnH n s k nn l ++ [.rows false 1 ((upTo i ++ noughts (n - i)).map rowZ)]) (fun i => n - i) []
    (At.mk' [0, 1, 2, 3, 4, 7, 15, 16, 17] 0 (by simp) ⟨rfl, rfl⟩ (by
      show turnH n s k nn l ++ [PO.rows false 1 (List.replicate n [.int .i64 0])] = _
      rw [← noughts_rows n]
      rfl) rfl (by simp) (by simp) (by simp)) ?_
  intro i hi
  refine S_r ?_
  refine brc_intro (fun hlt => ?_) (fun hlt => ?_)
  · have hlt : i < n := by have := of_decide_eq_true hlt; omega
    refine at2 (by omega) (by omega) ?_
    have hs : noughts (n - i) = 0 :: noughts (n - (i + 1)) := by
      rw [show n - i = (n - (i + 1)) + 1 by omega]
      rfl
    refine wr1 (rowZ 0) (gx (by rw [hs, Int.toNat_natCast]; simp [upTo_len])) ?_
    refine At.mk' [0, 1, 2, 3, 4, 7, 15, 16, 17] (i + 1) ⟨hlt, by omega⟩ ⟨?_, rfl⟩ ?_ rfl (by simp) (by simp) (by simp)
    · rw [wrap_i64 (i + 1) (by omega) (by omega)]
      rfl
    · show turnH n s k nn l ++ [PO.rows false 1 (((upTo i ++ noughts (n - i)).map rowZ).set (0 + (i : Int).toNat) (rowZ i))] = turnH n s k nn l ++ [PO.rows false 1 ((upTo (i + 1) ++ noughts (n - (i + 1))).map rowZ)]
      rw [Nat.zero_add, Int.toNat_natCast, ← List.map_set, hs, upTo_succ]
      congr 4
      rw [List.set_append, if_neg (by simp [upTo_len])]
      simp [upTo_len]
  · have hlt : ¬ (i : Int) < (n : Int) := of_decide_eq_false hlt
    obtain rfl : n = i := by omega
    refine SS.loop (fun p : Nat × Int × List Int => p.1 < n ∧ p.2.2.Perm (upTo n)) (fun p => [(0, i64 what), (1, i64 v), (2, cv (.ptr 0 0)), (3, cv (.ptr 1 0)), (4, cv (.ptr 2 0)), (7, cv (.slc 4 0 n none true)), (9, i64 p.1)])
      (fun p => turnH n p.2.1 k nn l ++ [.rows false 1 (p.2.2.map rowZ)]) (fun p => p.1) []
      (At.mk' [0, 1, 2, 3, 4, 7, 9] (n - 1, s, upTo n) ⟨by show n - 1 < n; omega, .refl _⟩ ⟨?_, rfl⟩ (by
        show turnH n s k nn l ++ [.rows false 1 ((upTo n ++ noughts (n - n)).map rowZ)] = turnH n s k nn l ++ [.rows false 1 ((upTo n).map rowZ)]
        rw [Nat.sub_self]
        simp [noughts]) rfl (by simp) (by simp) (by simp)) ?_
    · rw [wrap_i64 (n - 1) (by omega) (by omega), show (n : Int) - 1 = ((n - 1 : Nat) : Int) by omega]
    rintro ⟨i, s, A⟩ ⟨hi, hA⟩
    change i < n at hi
    change A.Perm (upTo n) at hA
    have hAl : A.length = n := hA.length_eq.trans (upTo_len n)
    refine S_r ?_
    refine brc_intro (fun hlt => ?_) (fun hlt => ?_)
    · have hlt : 0 < i := by
        have := of_decide_eq_true hlt
        have : (i : Int) > 0 := this
        omega
      have hi1 : IntKind.i64.wrap ((i : Int) + 1) = (i : Int) + 1 := wrap_i64 _ (by omega) (by omega)
      have hi2 : IntKind.u64.wrap (IntKind.i64.wrap ((i : Int) + 1)) = (i : Int) + 1 := by rw [hi1]; exact wrap_u64 _ (by omega) (by omega)
      refine nonzero_intro (b := IntKind.u64.wrap (IntKind.i64.wrap ((i : Int) + 1))) (by omega) ?_
      have hs := wrap_u64_lt (IntKind.u64.wrap (s * 6364136223846793005) + 1442695040888963407)
      generalize IntKind.u64.wrap (IntKind.u64.wrap (s * 6364136223846793005) + 1442695040888963407) = s' at *
      rw [hi2]
      have hk' : ∃ j : Nat, IntKind.i64.wrap ((s'.fdiv (2 ^ (min (33 : Int).toNat IntKind.u64.bits))).tmod ((i : Int) + 1)) = (j : Int) ∧ j ≤ i := by
        have h1 : 0 ≤ s'.fdiv (2 ^ (min (33 : Int).toNat IntKind.u64.bits)) := Int.fdiv_nonneg hs.1 (by decide)
        generalize s'.fdiv (2 ^ (min (33 : Int).toNat IntKind.u64.bits)) = y at *
        have h2 := Int.emod_nonneg y (b := (i : Int) + 1) (by omega)
        have h3 := Int.emod_lt_of_pos y (b := (i : Int) + 1) (by omega)
        rw [Int.tmod_eq_emod_of_nonneg h1, wrap_i64 _ (by omega) (by omega)]
        exact ⟨(y % ((i : Int) + 1)).toNat, by omega, by omega⟩
      obtain ⟨j, hj, hji⟩ := hk'
      refine SS.drawR follows (by decide) ?_
      rw [hj]
      obtain ⟨a, ha⟩ : ∃ a, A[j]? = some a := ⟨_, List.getElem?_eq_getElem (by omega)⟩
      obtain ⟨b, hb⟩ : ∃ b, A[i]? = some b := ⟨_, List.getElem?_eq_getElem (by omega)⟩
      refine at2 (a := (0 : Int) ≤ (j : Int)) (b := (j : Int) < (n : Int)) (by omega) (by omega) (rd1 (rowZ a) (.int .i64 a) (gx (by rw [Int.toNat_natCast]; exact ha)) rfl ?_)
      refine at2 (a := (0 : Int) ≤ (i : Int)) (b := (i : Int) < (n : Int)) (by omega) (by omega) (rd1 (rowZ b) (.int .i64 b) (gx (by rw [Int.toNat_natCast]; exact hb)) rfl ?_)
      refine at2 (a := (0 : Int) ≤ (i : Int)) (b := (i : Int) < (n : Int)) (by omega) (by omega) (wr1 (rowZ b) (gx (by rw [Int.toNat_natCast]; exact hb)) ?_)
      repeat' (first | refine And.intro rfl ?_ | refine And.intro (And.intro (by omega) (And.intro (by omega) rfl)) ?_ | fail)
      have hset : (((A.map rowZ).set (0 + (i : Int).toNat) (rowZ a)).set (0 + (j : Int).toNat) (rowZ b)) = ((A.set i a).set j b).map rowZ := by
        rw [Nat.zero_add, Nat.zero_add, Int.toNat_natCast, Int.toNat_natCast, List.map_set, List.map_set]
      have hgj : ((A.map rowZ).set (0 + (i : Int).toNat) (rowZ a))[0 + (j : Int).toNat]? = some (rowZ a) := by
        rw [Nat.zero_add, Nat.zero_add, Int.toNat_natCast, Int.toNat_natCast, List.getElem?_set]
        split
        · rename_i e
          rw [if_pos (by simp; omega)]
        · rw [List.getElem?_map, ha]
          rfl
      refine at2 (a := (0 : Int) ≤ (j : Int)) (b := (j : Int) < (n : Int)) (by omega) (by omega) (wr1 (rowZ a) hgj ?_)
      have hperm : ((A.set i a).set j b).Perm (upTo n) := by
        have := @List.set_set_perm _ A i j (by omega) (by omega)
        rw [(List.getElem?_eq_some_iff.1 ha).2, (List.getElem?_eq_some_iff.1 hb).2] at this
        exact this.trans hA
      refine At.mk' [0, 1, 2, 3, 4, 7, 9] (i - 1, s', (A.set i a).set j b) ⟨⟨by show i - 1 < n; omega, hperm⟩, by show i - 1 < i; omega⟩ ⟨?_, rfl⟩ ?_ rfl (by simp) (by simp) (by simp)
      · rw [wrap_i64 (i - 1) (by omega) (by omega), show (i : Int) - 1 = ((i - 1 : Nat) : Int) by omega]
      · show turnH n s' k nn l ++ [PO.rows false 1 (((A.map rowZ).set (0 + (i : Int).toNat) (rowZ a)).set (0 + (j : Int).toNat) (rowZ b))] = turnH n s' k nn l ++ [PO.rows false 1 (((A.set i a).set j b).map rowZ)]
        rw [hset]
    · refine SS.loop (fun p : Nat × Bool => p.1 ≤ n) (fun p => [(0, i64 what), (1, i64 v), (4, cv (.ptr 2 0)), (55, cv (.slc 4 0 n none true)), (56, i64 n), (57, i64 p.1)])
        (fun p => turnH n s (k + p.1) p.2 (l ++ (A.take p.1).map fun t => ⟨0, what, t, v⟩) ++ [.rows false 1 (A.map rowZ)]) (fun p => n - p.1) [3]
        (At.mk' [0, 1, 4, 55, 56, 57] (0, nn) (by simp) ⟨rfl, rfl⟩ (by simp) rfl (by simp) (by simp) (by simp)) ?_
      rintro ⟨j, nn⟩ hj
      change j ≤ n at hj
      refine S_r ?_
      refine brc_intro (fun hlt' => ?_) (fun hlt' => ?_)
      · have hlt' : j < n := by
          have := of_decide_eq_true hlt'
          have : (j : Int) < (n : Int) := this
          omega
        obtain ⟨t, ht⟩ : ∃ t, A[j]? = some t := ⟨_, List.getElem?_eq_getElem (by omega)⟩
        refine at2 (a := (0 : Int) ≤ (j : Int)) (b := (j : Int) < (n : Int)) (by omega) (by omega) (rd1 (rowZ t) (.int .i64 t) (gx (by rw [Int.toNat_natCast]; exact ht)) rfl ?_)
        refine And.intro (by simp) (Or.inl (And.intro rfl (And.intro ?_ (And.intro ?_ (And.intro ?_ ?_)))))
        · simp
          omega
        · show (k + j + 1) * 32 ≤ _
          omega
        · show k + j + 1 ≤ _
          omega
        · refine At.mk' [0, 1, 4, 55, 56, 57] (j + 1, nn) ⟨by show j + 1 ≤ n; omega, by show n - (j + 1) < n - j; omega⟩ ⟨?_, rfl⟩ ?_ rfl (by simp) (by simp) (by decide)
          · rw [wrap_i64 (j + 1) (by omega) (by omega)]
            rfl
          · rw [take_snoc ht, List.map_append, ← List.append_assoc]
            show _ = turnH n s (k + (j + 1)) nn ((l ++ (A.take j).map fun t => ⟨0, what, t, v⟩) ++ [⟨0, what, t, v⟩]) ++ [.rows false 1 (A.map rowZ)]
            rw [turnH, turnH, List.map_append (l₂ := [_])]
            rfl
      · have hlt' : ¬ (j : Int) < (n : Int) := of_decide_eq_false hlt'
        obtain rfl : n = j := by omega
        have e : A.take n = A := List.take_of_length_le (by omega)
        simp only [e]
        exact ⟨by decide, h s nn A hA⟩

end
end Go.Mac
