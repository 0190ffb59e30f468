/- slices.Equal of parts of rows of numbers. -/
import Derived.Test.YtnkmddcadkcdcaaGBase
open Go Go.Proofs Go.Mac
set_option maxRecDepth 100000
namespace Go.Mac

theorem part_get {all xs : List Int} {o n : Nat} (hn : xs.length = n) (h : (all.drop o).take n = xs) {i : Nat} (hi : i < n) : all[o + i]? = xs[i]? := by
  rw [← h, List.getElem?_take_of_lt hi, List.getElem?_drop]

section
variable {K : AV → List Nat → List PO → Prop}

theorem equalPart {ro1 ro2 : Bool} {all1 all2 : List Int} {o1 o2 n1 n2 : Nat} (xs ys : List Int) {c1 c2 : Option Nat} {nn1 nn2 : Bool} (hn : n1 < 4611686018427387904) (hn1 : xs.length = n1) (hn2 : ys.length = n2) (ha1 : (all1.drop o1).take n1 = xs) (ha2 : (all2.drop o2).take n2 = ys)
    (h1 : xs = ys → K (bl true) [] [.rows ro1 1 (all1.map rowZ), .rows ro2 1 (all2.map rowZ)]) (h0 : xs ≠ ys → K (bl false) [] [.rows ro1 1 (all1.map rowZ), .rows ro2 1 (all2.map rowZ)]) :
    Does Try.prog 9 [cv (.slc 0 o1 n1 c1 nn1), cv (.slc 1 o2 n2 c2 nn2)] [.rows ro1 1 (all1.map rowZ), .rows ro2 1 (all2.map rowZ)] K := by
  refine does Try.func9 rfl (by decide) ?_
  refine brc_intro (fun h => ?_) (fun h => ?_)
  · refine h0 ?_
    rintro rfl
    rw [← hn1, ← hn2] at h
    simp at h
  have hl : n1 = n2 := by simp at h; omega
  refine SS.loop (fun i : Nat => i ≤ n1 ∧ ∀ j, j < i → xs[j]? = ys[j]?) (fun i => [(0, cv (.slc 0 o1 n1 c1 nn1)), (1, cv (.slc 1 o2 n2 c2 nn2)), (12, i64 n1), (13, i64 i)]) (fun _ => [.rows ro1 1 (all1.map rowZ), .rows ro2 1 (all2.map rowZ)]) (fun i => n1 - i) []
    (At.mk' [0, 1, 12, 13] 0 (by simp) ⟨rfl, rfl⟩ rfl rfl (by simp) (by simp) (by simp)) ?_
  rintro i ⟨hi, hj⟩
  refine S_r ?_
  refine brc_intro (fun h => ?_) (fun h => ?_)
  · have hlt : i < n1 := by have := of_decide_eq_true h; omega
    refine SS.inlR ?_
    refine SS.drawR follows (by decide) ?_
    obtain ⟨x, hx⟩ : ∃ x, xs[i]? = some x := ⟨_, List.getElem?_eq_getElem (by omega)⟩
    obtain ⟨y, hy⟩ : ∃ y, ys[i]? = some y := ⟨_, List.getElem?_eq_getElem (by omega)⟩
    have hx' := (part_get hn1 ha1 hlt).trans hx
    have hy' := (part_get hn2 ha2 (hl ▸ hlt)).trans hy
    refine at2 (by omega) (by omega) (rd1 (rowZ x) (.int .i64 x) (by simp [hx']) rfl ?_)
    refine at2 (by omega) (by omega) (rd1 (rowZ y) (.int .i64 y) (by simp [hy']) rfl ?_)
    refine brc_intro (fun h' => ?_) (fun h' => ?_)
    · refine h0 ?_
      rintro rfl
      rw [hx] at hy
      cases hy
      simp at h'
    · have e : x = y := by simpa using h'
      refine At.mk' [0, 1, 12, 13] (i + 1) ⟨⟨hlt, fun j hj' => ?_⟩, by omega⟩ ⟨?_, rfl⟩ rfl rfl (by simp) (by simp) (by simp)
      · rcases Nat.lt_succ_iff_lt_or_eq.1 hj' with h | rfl
        · exact hj j h
        · rw [hx, hy, e]
      · rw [wrap_i64 _ (by omega) (by omega)]
        rfl
  · have h := of_decide_eq_false h
    refine h1 (List.ext_getElem? fun j => ?_)
    rcases Nat.lt_or_ge j i with h' | h'
    · exact hj j h'
    · rw [List.getElem?_eq_none (by omega), List.getElem?_eq_none (by omega)]

end
end Go.Mac
