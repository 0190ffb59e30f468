/- Texts that belong together; the first of them: slices.Equal of events. -/
import Derived.Test.YtlimhldkkbaohaaGreatDoorProg
import Derived.Test.YtlimhldkkbaohaaGreatDoorQJudge
import Derived.Test.YtlimhldkkbaohaaGreatDoorGBase

/- slices.Equal of events. -/
section
open Go Go.Proofs Go.Mac
set_option maxRecDepth 100000
namespace Go.Mac

section
variable {K : AV → List Nat → List PO → Prop}

theorem plainEv : plainT Tryz.prog 45 = true := by decide +kernel

theorem equalEv {ro1 ro2 : Bool} {xs ys : List EvZ} {c1 c2 : Option Nat} {nn1 nn2 : Bool} (hn : xs.length < 4611686018427387904)
    (h1 : xs = ys → K (bl true) [] [.rows ro1 4 (xs.map rowEv), .rows ro2 4 (ys.map rowEv)]) (h0 : xs ≠ ys → K (bl false) [] [.rows ro1 4 (xs.map rowEv), .rows ro2 4 (ys.map rowEv)]) :
    Does Tryz.prog 17 [cv (.slc 0 0 xs.length c1 nn1), cv (.slc 1 0 ys.length c2 nn2)] [.rows ro1 4 (xs.map rowEv), .rows ro2 4 (ys.map rowEv)] K := by
  refine does Tryz.func17 rfl (by decide) ?_
  refine brc_intro (fun h => ?_) (fun h => ?_)
  · refine h0 ?_
    rintro rfl
    simp at h
  have hl : xs.length = ys.length := by simp at h; omega
  refine SS.loop (fun i : Nat => i ≤ xs.length ∧ ∀ j, j < i → xs[j]? = ys[j]?) (fun i => [(0, cv (.slc 0 0 xs.length c1 nn1)), (1, cv (.slc 1 0 ys.length c2 nn2)), (12, i64 xs.length), (13, i64 i)]) (fun _ => [.rows ro1 4 (xs.map rowEv), .rows ro2 4 (ys.map rowEv)]) (fun i => xs.length - i) []
    (At.mk' [0, 1, 12, 13] 0 (by simp) ⟨rfl, rfl⟩ rfl rfl (by simp) (by simp) (by simp)) ?_
  rintro i ⟨hi, hj⟩
  refine S_r ?_
  refine brc_intro (fun h => ?_) (fun h => ?_)
  · have hlt : i < xs.length := by have := of_decide_eq_true h; omega
    refine SS.inlR ?_
    refine SS.drawR follows (by decide) ?_
    obtain ⟨x, hx⟩ : ∃ x, xs[i]? = some x := ⟨_, List.getElem?_eq_getElem hlt⟩
    obtain ⟨y, hy⟩ : ∃ y, ys[i]? = some y := ⟨_, List.getElem?_eq_getElem (by omega)⟩
    refine at2 (by omega) (by omega) (rdA (rowEv x) (by simp [hx]) ?_)
    refine at2 (by omega) (by omega) (rdA (rowEv y) (by simp [hy]) ?_)
    refine And.intro plainEv ?_
    refine brc_intro (fun h' => ?_) (fun h' => ?_)
    · refine h0 ?_
      rintro rfl
      rw [hx] at hy
      cases hy
      simp at h'
    · have e : x = y := by cases x; cases y; simpa using h'
      refine At.mk' [0, 1, 12, 13] (i + 1) ⟨⟨hlt, fun j hj' => ?_⟩, by omega⟩ ⟨?_, rfl⟩ rfl rfl (by simp) (by simp) (by simp)
      · rcases Nat.lt_succ_iff_lt_or_eq.1 hj' with h | rfl
        · exact hj j h
        · rw [hx, hy, e]
      · rw [wrap_i64 _ (by omega) (by omega)]
        rfl
  · have h := of_decide_eq_false h
    refine h1 (List.ext_getElem? fun j => ?_)
    rcases Nat.lt_or_ge j i with h' | h'
    · exact hj j h'
    · rw [List.getElem?_eq_none (by omega), List.getElem?_eq_none (by omega)]

end
end Go.Mac
end

/- slices.Equal of instructions. -/
section
open Go Go.Proofs Go.Mac
set_option maxRecDepth 100000
namespace Go.Mac

section
variable {K : AV → List Nat → List PO → Prop}

theorem plainIns : plainT Tryz.prog 61 = true := by decide +kernel

theorem equalIns {ro1 ro2 : Bool} {xs ys : List InsZ} {c1 c2 : Option Nat} {nn1 nn2 : Bool} (hn : xs.length < 4611686018427387904)
    (h1 : xs = ys → K (bl true) [] [.rows ro1 5 (xs.map rowIns), .rows ro2 5 (ys.map rowIns)]) (h0 : xs ≠ ys → K (bl false) [] [.rows ro1 5 (xs.map rowIns), .rows ro2 5 (ys.map rowIns)]) :
    Does Tryz.prog 26 [cv (.slc 0 0 xs.length c1 nn1), cv (.slc 1 0 ys.length c2 nn2)] [.rows ro1 5 (xs.map rowIns), .rows ro2 5 (ys.map rowIns)] K := by
  refine does Tryz.func26 rfl (by decide) ?_
  refine brc_intro (fun h => ?_) (fun h => ?_)
  · refine h0 ?_
    rintro rfl
    simp at h
  have hl : xs.length = ys.length := by simp at h; omega
  refine SS.loop (fun i : Nat => i ≤ xs.length ∧ ∀ j, j < i → xs[j]? = ys[j]?) (fun i => [(0, cv (.slc 0 0 xs.length c1 nn1)), (1, cv (.slc 1 0 ys.length c2 nn2)), (12, i64 xs.length), (13, i64 i)]) (fun _ => [.rows ro1 5 (xs.map rowIns), .rows ro2 5 (ys.map rowIns)]) (fun i => xs.length - i) []
    (At.mk' [0, 1, 12, 13] 0 (by simp) ⟨rfl, rfl⟩ rfl rfl (by simp) (by simp) (by simp)) ?_
  rintro i ⟨hi, hj⟩
  refine S_r ?_
  refine brc_intro (fun h => ?_) (fun h => ?_)
  · have hlt : i < xs.length := by have := of_decide_eq_true h; omega
    refine SS.inlR ?_
    refine SS.drawR follows (by decide) ?_
    obtain ⟨x, hx⟩ : ∃ x, xs[i]? = some x := ⟨_, List.getElem?_eq_getElem hlt⟩
    obtain ⟨y, hy⟩ : ∃ y, ys[i]? = some y := ⟨_, List.getElem?_eq_getElem (by omega)⟩
    refine at2 (by omega) (by omega) (rdA (rowIns x) (by simp [hx]) ?_)
    refine at2 (by omega) (by omega) (rdA (rowIns y) (by simp [hy]) ?_)
    refine And.intro plainIns ?_
    refine brc_intro (fun h' => ?_) (fun h' => ?_)
    · refine h0 ?_
      rintro rfl
      rw [hx] at hy
      cases hy
      simp at h'
    · have e : x = y := by cases x; cases y; simpa using h'
      refine At.mk' [0, 1, 12, 13] (i + 1) ⟨⟨hlt, fun j hj' => ?_⟩, by omega⟩ ⟨?_, rfl⟩ rfl rfl (by simp) (by simp) (by simp)
      · rcases Nat.lt_succ_iff_lt_or_eq.1 hj' with h | rfl
        · exact hj j h
        · rw [hx, hy, e]
      · rw [wrap_i64 _ (by omega) (by omega)]
        rfl
  · have h := of_decide_eq_false h
    refine h1 (List.ext_getElem? fun j => ?_)
    rcases Nat.lt_or_ge j i with h' | h'
    · exact hj j h'
    · rw [List.getElem?_eq_none (by omega), List.getElem?_eq_none (by omega)]

end
end Go.Mac
end
