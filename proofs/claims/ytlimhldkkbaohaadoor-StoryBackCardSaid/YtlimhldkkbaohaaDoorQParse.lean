/- code.Parse: the program that a text is, where each line is an instruction. -/
import Derived.Test.YtlimhldkkbaohaaDoorQCodeOne
open Go Go.Proofs Go.Mac
set_option maxRecDepth 100000
namespace Go.Mac

/-- A text, and the program that it is. -/
structure TextZ (s : List UInt8) (rs : List (List UInt8)) (xs : List InsZ) (m : Nat) : Prop where
  r0 : rs[0]? = some s
  xl : xs.length = m
  m100 : m ≤ 100
  step : ∀ k, k < m → ∃ r l r' x, rs[k]? = some r ∧ r ≠ [] ∧ rs[k + 1]? = some r' ∧ Lib.indexByte r 10 = l.length ∧ l.length + 1 ≤ r.length ∧ r.length ≤ 1000 ∧ r.take l.length = l ∧ r.drop (l.length + 1) = r' ∧ xs[k]? = some x ∧
    ∃ n ps rs2 op ys ts, LineZ l n ps rs2 op ys ts ∧ x = insL op ys
  last : rs[m]? = some []

section
variable {K : AV → List Nat → List PO → Prop}

theorem codeParse {s : List UInt8} {rs : List (List UInt8)} {xs : List InsZ} {m : Nat} (hT : TextZ s rs xs m) (h : K (.tup [.c (.slc 1 0 m none false), .c .niliface]) [] [powH, .rows false 5 (xs.map rowIns)]) :
    Does Tryd.prog 25 [st s] [powH] K := by
  refine Does.keep 1 rfl ?_
  refine does Tryd.func25 rfl (by decide) ?_
  refine SS.nil 4 5 (by decide) rfl ?_
  have hm := hT.m100
  have hxl := hT.xl
  refine SS.loop (fun k : Nat => k ≤ m) (fun k => [(0, st (rs.getD k [])), (4, cv (.slc 1 0 k none false))]) (fun k => [powH, .rows false 5 ((xs.take k).map rowIns)]) (fun k => m - k) [1, 2]
    (At.mk' [0, 4] 0 (by simp) ⟨?_, rfl⟩ rfl rfl (by simp) (by simp) (by simp)) ?_
  · have e0 : rs.getD 0 [] = s := by rw [List.getD_eq_getElem?_getD, hT.r0]; rfl
    rw [e0]
    rfl
  intro k hk
  change k ≤ m at hk
  refine S_r ?_
  refine brc_intro (fun hne => ?_) (fun hne => ?_)
  · have hne : rs.getD k [] ≠ [] := by simpa using hne
    have hlt : k < m := by
      rcases (show k < m ∨ k = m by omega) with h1 | rfl
      · exact h1
      · exact absurd (by rw [List.getD_eq_getElem?_getD, hT.last]; rfl) hne
    obtain ⟨r, l, r', x, h1, _, h3, h4, h5, h6, h7, h8, h9, n, ps, rs2, op, ys, ts, hL, rfl⟩ := hT.step k hlt
    have e1 : rs.getD k [] = r := by rw [List.getD_eq_getElem?_getD, h1]; rfl
    have e3 : rs.getD (k + 1) [] = r' := by rw [List.getD_eq_getElem?_getD, h3]; rfl
    rw [e1]
    change Does Tryd.prog 68 _ _ _
    refine Does.alone 2 (cut h4 h5 h6 ?_)
    rw [h7, h8]
    change Does Tryd.prog 69 _ _ _
    refine Does.on 2 [0] _ _ (codeOne hL ?_)
    refine brc_intro (fun h => ?_) (fun _ => ?_)
    · exfalso
      have : (k : Int) = 600 := by simpa using h
      omega
    refine And.intro (by simp) (Or.inl (And.intro rfl (And.intro (by rw [List.length_map, List.length_take, hxl]; omega) (And.intro (by show (k + 1) * 40 ≤ _; omega) (And.intro (by show k + 1 ≤ _; omega) ?_)))))
    refine At.mk' [0, 4] (k + 1) ⟨hlt, by omega⟩ ⟨?_, rfl⟩ ?_ rfl (by simp) (by simp) (by decide)
    · rw [e3]
      rfl
    · have e : (xs.take (k + 1)).map rowIns = (xs.take k).map rowIns ++ [rowIns (insL op ys)] := by
        rw [List.take_add_one, h9, List.map_append]
        rfl
      rw [e]
      rfl
  · have hne : rs.getD k [] = [] := by simpa using hne
    have hkm : k = m := by
      rcases (show k < m ∨ k = m by omega) with h1 | rfl
      · obtain ⟨r, _, _, _, h2, h3, _⟩ := hT.step k h1
        exfalso
        rw [List.getD_eq_getElem?_getD, h2] at hne
        exact h3 hne
      · rfl
    subst hkm
    rw [show xs.take k = xs from List.take_of_length_le (by omega)]
    exact ⟨2, [0, 1], _, _, rfl, rfl, by decide, by decide, rfl, rfl, rfl, rfl, rfl, h⟩

end
end Go.Mac
