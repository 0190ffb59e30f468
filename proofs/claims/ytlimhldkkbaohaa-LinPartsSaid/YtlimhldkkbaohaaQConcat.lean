/- slices.Concat of two slices of numbers. -/
import Derived.Test.YtlimhldkkbaohaaGBase
open Go Go.Proofs Go.Mac
set_option maxRecDepth 100000
namespace Go.Mac

def conW (xs ys : List Int) (i : Nat) : List Int := if i = 0 then [] else if i = 1 then xs else xs ++ ys
def conR (xs ys : List Int) (i : Nat) : List Int := if i = 0 then xs else ys

theorem conW_succ (xs ys : List Int) {i : Nat} (h : i < 2) : conW xs ys (i + 1) = conW xs ys i ++ conR xs ys i := by
  rcases (show i = 0 ∨ i = 1 by omega) with rfl | rfl <;> simp [conW, conR]

theorem conW_len (xs ys : List Int) (i : Nat) : (conW xs ys i).length ≤ xs.length + ys.length := by
  unfold conW
  split
  · simp
  · split
    · omega
    · simp

section
variable {K : AV → List Nat → List PO → Prop}

theorem growInts {k : Nat} (hk : 0 < k) (hb : k ≤ 1000000) (h0 : K (cv (.slc 0 0 0 none true)) [] [.rows false 1 (List.replicate k (rowZ 0))]) : Does Try.prog 13 [cv .nilslc, i64 k] [] K := by
  refine does Try.func13 rfl (by decide) ?_
  have wr : IntKind.i64.wrap ((k : Int) - IntKind.i64.wrap (0 - 0)) = k := by
    rw [show IntKind.i64.wrap (0 - 0) = 0 by decide, wrap_i64 _ (by omega) (by omega)]; omega
  refine brc_intro (fun _ => ?_) (fun h => ?_)
  · rw [wr]
    refine And.intro (Int.le_refl 0) (And.intro (Int.le_refl 0) ?_)
    refine And.intro (show (0 : Int) < (k : Int) by omega) (And.intro ?_ (And.intro (show (k : Int) ≤ 9223372036854775807 by omega) ?_))
    · show (k : Int).toNat * 8 ≤ 140737488355328
      omega
    rw [Int.toNat_natCast]
    refine Or.inl (And.intro (Int.le_refl 0) (And.intro (show (0 : Int) ≤ (k : Int) by omega) ?_))
    exact h0
  · exfalso
    have h := of_decide_eq_false h
    rw [wr] at h
    omega

theorem growNil (h : K (cv .nilslc) [] []) : Does Try.prog 13 [cv .nilslc, i64 (0 : Nat)] [] K := by
  refine does Try.func13 rfl (by decide) ?_
  exact h

theorem concat2 (xs ys : List Int) (hl : xs.length + ys.length ≤ 1000000) (h : ∀ b, K (cv (.slc 1 0 (xs.length + ys.length) none b)) [] [.rows2 false 1 [xs.map rowZ, ys.map rowZ], .rows false 1 ((xs ++ ys).map rowZ)]) :
    Does Try.prog 10 [cv (.slc 0 0 2 none true)] [.rows2 false 1 [xs.map rowZ, ys.map rowZ]] K := by
  refine Does.keep 1 rfl ?_
  refine does Try.func10 rfl (by decide) ?_
  have hrow : ∀ i, i < 2 → ([xs.map rowZ, ys.map rowZ] : List (List (List FC)))[0 + Int.toNat (i : Nat)]? = some ((conR xs ys i).map rowZ) := fun i hi => by
    rcases (show i = 0 ∨ i = 1 by omega) with rfl | rfl <;> rfl
  have hWl := conW_len xs ys
  have hW2 : conW xs ys 2 = xs ++ ys := rfl
  refine SS.loop (fun i : Nat => i ≤ 2) (fun i => [(0, cv (.slc 0 0 2 none true)), (3, i64 (conW xs ys i).length), (9, cv (.slc 0 0 2 none true)), (10, i64 (2 : Nat)), (11, i64 i)]) (fun _ => [.rows2 false 1 [xs.map rowZ, ys.map rowZ]]) (fun i => 2 - i) [1]
    (At.mk' [0, 3, 9, 10, 11] 0 (by simp) ⟨rfl, rfl⟩ rfl rfl (by simp) (by simp) (by simp)) ?_
  intro i hi
  change i ≤ 2 at hi
  refine S_r ?_
  refine brc_intro (fun hlt => ?_) (fun hlt => ?_)
  · have hlt : i < 2 := by
      have := of_decide_eq_true hlt
      have : (i : Int) < ((2 : Nat) : Int) := this
      omega
    have hs := conW_succ xs ys hlt
    have hl1 := congrArg List.length hs
    rw [List.length_append] at hl1
    have hb := hWl (i + 1)
    have hlm : ((conR xs ys i).map rowZ).length = (conR xs ys i).length := List.length_map ..
    have wr : IntKind.i64.wrap ((i : Int) + 1) = ((i + 1 : Nat) : Int) := wrap_i64 _ (by omega) (by omega)
    have wr2 : IntKind.i64.wrap (((conW xs ys i).length : Int) + (((conR xs ys i).map rowZ).length : Int)) = ((conW xs ys (i + 1)).length : Int) := by rw [hlm, wrap_i64 _ (by omega) (by omega), hl1]; rfl
    refine SS.inlR ?_
    refine at2 (a := (0 : Int) ≤ (i : Int)) (b := (i : Int) < ((2 : Nat) : Int)) (by omega) (by omega) ?_
    refine Exists.intro ((conR xs ys i).map rowZ) (And.intro (hrow i hlt) ?_)
    refine brc_intro (fun h => ?_) (fun _ => ?_)
    · exfalso
      have h := of_decide_eq_true h
      have h : IntKind.i64.wrap (((conW xs ys i).length : Int) + (((conR xs ys i).map rowZ).length : Int)) < 0 := h
      rw [wr2] at h
      omega
    refine At.mk' [0, 3, 9, 10, 11] (i + 1) ⟨hlt, by omega⟩ ⟨?_, rfl⟩ rfl rfl (by simp) (by simp) (by simp)
    rw [wr, wr2]
  · have hlt : ¬ (i : Int) < ((2 : Nat) : Int) := of_decide_eq_false hlt
    obtain rfl : i = 2 := by omega
    rw [hW2, List.length_append]
    generalize hk : xs.length + ys.length = k at hl h ⊢
    change Does Try.prog 13 _ _ _
    by_cases hk0 : k = 0
    · subst hk0
      obtain rfl : xs = [] := List.length_eq_zero_iff.1 (by omega)
      obtain rfl : ys = [] := List.length_eq_zero_iff.1 (by omega)
      refine Does.alone 1 (growNil ?_)
      refine SS.nil 6 1 (by decide) rfl ?_
      refine SS.loop (fun i : Nat => i ≤ 2) (fun i => [(6, cv (.slc 1 0 0 none false)), (25, cv (.slc 0 0 2 none true)), (26, i64 (2 : Nat)), (27, i64 i)]) (fun i => [.rows2 false 1 [[], []], .rows false 1 []]) (fun i => 2 - i) [1]
        (At.mk' [6, 25, 26, 27] 0 (by simp) ⟨rfl, rfl⟩ rfl rfl (by simp) (by simp) (by simp)) ?_
      intro i hi
      change i ≤ 2 at hi
      refine S_r ?_
      refine brc_intro (fun hlt => ?_) (fun hlt => ?_)
      · have hlt : i < 2 := by
          have := of_decide_eq_true hlt
          have : (i : Int) < ((2 : Nat) : Int) := this
          omega
        have hrow' : ([[], []] : List (List (List FC)))[0 + Int.toNat (i : Int)]? = some [] := by rcases (show i = 0 ∨ i = 1 by omega) with rfl | rfl <;> rfl
        have hrow2 : ([[], []] : List (List (List FC)))[0 + Int.toNat (i : Int)]? = some [] := hrow'
        have wr : IntKind.i64.wrap ((i : Int) + 1) = ((i + 1 : Nat) : Int) := wrap_i64 _ (by omega) (by omega)
        refine at2 (a := (0 : Int) ≤ (i : Int)) (b := (i : Int) < ((2 : Nat) : Int)) (by omega) (by omega) ?_
        refine Exists.intro [] (And.intro hrow' ?_)
        refine Exists.intro [] (And.intro hrow2 (And.intro (Nat.le_refl 0) (Or.inl (And.intro rfl (And.intro rfl (And.intro (Nat.zero_le _) (And.intro (Nat.zero_le _) ?_)))))))
        refine At.mk' [6, 25, 26, 27] (i + 1) ⟨hlt, by omega⟩ ⟨?_, rfl⟩ rfl rfl (by simp) (by simp) (by decide)
        rw [wr]
        rfl
      · have hlt : ¬ (i : Int) < ((2 : Nat) : Int) := of_decide_eq_false hlt
        obtain rfl : i = 2 := by omega
        exact ⟨2, [0, 1], [.rows2 false 1 [[], []], .rows false 1 []], cv (.slc 1 0 0 none false), rfl, rfl, by decide, by decide, rfl, rfl, rfl, rfl, rfl, h false⟩
    · refine Does.alone 1 (growInts (k := k) (by omega) hl ?_)
      refine SS.loop (fun i : Nat => i ≤ 2) (fun i => [(6, cv (.slc 1 0 (conW xs ys i).length none true)), (25, cv (.slc 0 0 2 none true)), (26, i64 (2 : Nat)), (27, i64 i)]) (fun i => [.rows2 false 1 [xs.map rowZ, ys.map rowZ], .rows false 1 ((conW xs ys i).map rowZ ++ List.replicate (k - (conW xs ys i).length) (rowZ 0))]) (fun i => 2 - i) [1]
        (At.mk' [6, 25, 26, 27] 0 (by simp) ⟨rfl, rfl⟩ rfl rfl (by simp) (by simp) (by simp)) ?_
      intro i hi
      change i ≤ 2 at hi
      refine S_r ?_
      refine brc_intro (fun hlt => ?_) (fun hlt => ?_)
      · have hlt : i < 2 := by
          have := of_decide_eq_true hlt
          have : (i : Int) < ((2 : Nat) : Int) := this
          omega
        have hs := conW_succ xs ys hlt
        have hl1 := congrArg List.length hs
        rw [List.length_append] at hl1
        have hb := hWl (i + 1)
        have hlm : ((conR xs ys i).map rowZ).length = (conR xs ys i).length := List.length_map ..
        have wr : IntKind.i64.wrap ((i : Int) + 1) = ((i + 1 : Nat) : Int) := wrap_i64 _ (by omega) (by omega)
        refine at2 (a := (0 : Int) ≤ (i : Int)) (b := (i : Int) < ((2 : Nat) : Int)) (by omega) (by omega) ?_
        refine Exists.intro ((conR xs ys i).map rowZ) (And.intro (hrow i hlt) ?_)
        have hrow' : ([xs.map rowZ, ys.map rowZ] : List (List (List FC)))[i]? = some ((conR xs ys i).map rowZ) := by have := hrow i hlt; rwa [Nat.zero_add, Int.toNat_natCast] at this
        rw [hlm, show 0 + Int.toNat (i : Int) = i by simp]
        have e : List.take (conR xs ys i).length (List.drop 0 ((conR xs ys i).map rowZ)) = (conR xs ys i).map rowZ := by rw [List.drop_zero, List.take_of_length_le (by simp)]
        refine Exists.intro ((conR xs ys i).map rowZ) (And.intro hrow' (And.intro (by rw [hlm]; omega) (Or.inr (And.intro rfl (And.intro rfl (And.intro ?_ ?_))))))
        · rw [e, hlm]
          simp only [List.length_append, List.length_map, List.length_replicate]
          omega
        · rw [e, hlm]
          refine At.mk' [6, 25, 26, 27] (i + 1) ⟨hlt, by omega⟩ ⟨?_, rfl⟩ ?_ rfl (by simp) (by simp) (by decide)
          · rw [wr, hl1]
          · have e2 : List.take (0 + (conW xs ys i).length) ((conW xs ys i).map rowZ ++ List.replicate (k - (conW xs ys i).length) (rowZ 0)) = (conW xs ys i).map rowZ := by
              rw [Nat.zero_add, List.take_append_of_le_length (by simp), List.take_of_length_le (by simp)]
            have e3 : List.drop (0 + (conW xs ys i).length + (conR xs ys i).length) ((conW xs ys i).map rowZ ++ List.replicate (k - (conW xs ys i).length) (rowZ 0)) = List.replicate (k - (conW xs ys (i + 1)).length) (rowZ 0) := by
              rw [Nat.zero_add, List.drop_append, List.drop_of_length_le (by simp), List.nil_append, List.drop_replicate, List.length_map]
              congr 1
              omega
            show [_, PO.rows false 1 (List.take _ _ ++ _ ++ List.drop _ _)] = _
            rw [e2, e3, hs, List.map_append]
      · have hlt : ¬ (i : Int) < ((2 : Nat) : Int) := of_decide_eq_false hlt
        obtain rfl : i = 2 := by omega
        rw [hW2]
        have hlk : (xs ++ ys).length = k := by rw [List.length_append]; exact hk
        rw [hlk, Nat.sub_self, List.replicate_zero, List.append_nil]
        exact ⟨2, [0, 1], [.rows2 false 1 [xs.map rowZ, ys.map rowZ], .rows false 1 ((xs ++ ys).map rowZ)], cv (.slc 1 0 k none true), rfl, rfl, by decide, by decide, rfl, rfl, rfl, rfl, rfl, h true⟩

end
end Go.Mac
