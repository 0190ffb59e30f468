/- When a cell was stored, told. -/
import Derived.Test.YtnhldphlkklfiaaGreatDoorQKept
import Derived.Test.YtnhldphlkklfiaaGreatDoorQStoreA
open Go Go.Proofs Go.Mac
set_option maxRecDepth 100000
namespace Go.Mac

theorem stN_take {c : Nat} {al : List ActZ} {i : Nat} {a : ActZ} (h : al[i]? = some a) : stN c (al.take (i + 1)) = stN c (al.take i) ++ (if a.o = 7 ∧ a.c = (c : Int) then [a.w] else []) := by
  rw [List.take_add_one, h]
  exact stN_snoc _ _ _

theorem stN_len (c : Nat) (al : List ActZ) : (stN c al).length ≤ al.length := List.length_filterMap_le _ _

theorem stores {K : AV → List Nat → List PO → Prop} {m : MZ} {v : VZ} {c : Nat} (hw : WF m) (h : K (cv (.slc 9 0 (stN c m.al).length none false)) [] (machH m v ++ [.rows false 1 ((stN c m.al).map rowZ)])) :
    Does Tryz.prog 25 [cv (.ptr 0 0), i64 c] (machH m v) K := by
  have hal := hw.al
  have hkz := hw.k
  refine Does.keep 9 rfl ?_
  refine does Tryz.func25 rfl (by decide) ?_
  change Does Tryz.prog 36 _ _ _
  refine coreActs (m := m) (v := v) (by omega) ?_
  refine SS.nil 5 1 (by decide) rfl ?_
  refine SS.loop (fun i : Nat => i ≤ m.al.length) (fun i => [(1, i64 c), (5, cv (.slc 10 0 (stN c (m.al.take i)).length none false)), (9, cv (.slc 9 0 m.al.length none false)), (10, i64 m.al.length), (11, i64 i)])
    (fun i => machH m v ++ [.rows false 6 (m.al.map rowAct), .rows false 1 ((stN c (m.al.take i)).map rowZ)]) (fun i => m.al.length - i) [10]
    (At.mk' [1, 5, 9, 10, 11] 0 (by simp) ⟨rfl, rfl⟩ rfl rfl (by simp) (by simp) (by decide)) ?_
  intro i hi
  change i ≤ m.al.length at hi
  refine S_r ?_
  refine brc_intro (fun hlt => ?_) (fun hlt => ?_)
  · have hlt2 : i < m.al.length := by
      have := of_decide_eq_true hlt
      have : (i : Int) < (m.al.length : Int) := this
      omega
    obtain ⟨a, ha⟩ : ∃ a, m.al[i]? = some a := ⟨_, List.getElem?_eq_getElem hlt2⟩
    have hnx := stN_take (c := c) ha
    have hls := stN_len c (m.al.take i)
    rw [List.length_take] at hls
    have wr : IntKind.i64.wrap ((i : Int) + 1) = ((i + 1 : Nat) : Int) := wrap_i64 _ (by omega) (by omega)
    refine SS.inlR ?_
    refine at2 (a := (0 : Int) ≤ (i : Int)) (b := (i : Int) < (m.al.length : Int)) (by omega) (by omega) (rdA (rowAct a) (gActN ha) ?_)
    refine brc_intro (fun h7 => ?_) (fun h7 => ?_)
    · have h7 : a.o = 7 := by simpa using h7
      refine brc_intro (fun hc => ?_) (fun hc => ?_)
      · have hc : a.c = (c : Int) := by simpa using hc
        rw [if_pos ⟨h7, hc⟩] at hnx
        refine And.intro (by simp) (Or.inl (And.intro rfl (And.intro (by simp) (And.intro (by show ((stN c (m.al.take i)).length + 1) * 8 ≤ _; omega) (And.intro (by show (stN c (m.al.take i)).length + 1 ≤ _; omega) ?_)))))
        refine At.mk' [1, 5, 9, 10, 11] (i + 1) ⟨hlt2, by omega⟩ ⟨?_, rfl⟩ ?_ rfl (by simp) (by simp) (by decide)
        · rw [wr, hnx, List.length_append]
          rfl
        · rw [hnx, List.map_append]
          rfl
      · have hc : a.c ≠ (c : Int) := by simpa using hc
        rw [if_neg (fun h => hc h.2), List.append_nil] at hnx
        refine At.mk' [1, 5, 9, 10, 11] (i + 1) ⟨hlt2, by omega⟩ ⟨?_, rfl⟩ ?_ rfl (by simp) (by simp) (by decide)
        · rw [wr, hnx]
        · rw [hnx]
          rfl
    · have h7 : a.o ≠ 7 := by simpa using h7
      rw [if_neg (fun h => h7 h.1), List.append_nil] at hnx
      refine At.mk' [1, 5, 9, 10, 11] (i + 1) ⟨hlt2, by omega⟩ ⟨?_, rfl⟩ ?_ rfl (by simp) (by simp) (by decide)
      · rw [wr, hnx]
      · rw [hnx]
        rfl
  · have hlt : ¬ (i : Int) < (m.al.length : Int) := of_decide_eq_false hlt
    obtain rfl : i = m.al.length := by omega
    rw [List.take_length]
    exact ⟨11, [0, 1, 2, 3, 4, 5, 6, 7, 8, 10], machH m v ++ [PO.rows false 1 ((stN c m.al).map rowZ)], cv (.slc 9 0 (stN c m.al).length none false), rfl, rfl, by decide, by decide, rfl, rfl, rfl, rfl, rfl, h⟩

end Go.Mac
