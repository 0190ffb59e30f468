/- strings.Split at a separator of one byte: the parts. -/
import Derived.Test.YtlimhldkkbaohaaGreatDoorQSplit
open Go Go.Proofs Go.Mac
set_option maxRecDepth 100000
namespace Go.Mac

/-- The text's parts, and what is left at each. -/
structure PartsS (c : UInt8) (n : Nat) (ps rs : List (List UInt8)) : Prop where
  ln : ps.length = n + 1
  step : ∀ i, i < n → ∃ r p r', rs[i]? = some r ∧ ps[i]? = some p ∧ rs[i + 1]? = some r' ∧ Lib.indexByte r c = p.length ∧ p.length + 1 ≤ r.length ∧ r.length ≤ 1000 ∧ r.take p.length = p ∧ r.drop (p.length + 1) = r'
  last : rs[n]? = ps[n]?

def doneS (ps : List (List UInt8)) (n i : Nat) : List (List UInt8) := ps.take i ++ List.replicate (n + 1 - i) []

theorem doneS_set {ps : List (List UInt8)} {n i : Nat} {p : List UInt8} (hp : ps[i]? = some p) (hi : i ≤ n) (hl : ps.length = n + 1) : (doneS ps n i).set i p = doneS ps n (i + 1) := by
  have h1 : (ps.take i).length = i := by rw [List.length_take]; omega
  rw [doneS, doneS, List.take_add_one, hp, List.set_append_right _ _ (by omega), h1, Nat.sub_self, show n + 1 - i = (n + 1 - (i + 1)) + 1 by omega, List.replicate_succ, List.set_cons_zero]
  simp

section
variable {K : AV → List Nat → List PO → Prop}

theorem strSplit {s : List UInt8} {c : UInt8} {n : Nat} {ps rs : List (List UInt8)} (hP : PartsS c n ps rs) (hn : Lib.countByte s c = n) (hn20 : n ≤ 20) (hsl : n ≤ s.length ∧ s.length ≤ 1000) (hr0 : rs[0]? = some s) (h : K (cv (.slc 0 0 (n + 1) none true)) [] [.rows false 1 (ps.map rowStr)]) :
    Does Tryz.prog 65 [st s, st [c]] [] K := by
  refine Does.keep 0 rfl ?_
  refine does Tryz.func65 rfl (by decide) ?_
  change Does Tryz.prog 94 _ _ _
  refine does Tryz.func94 rfl (by decide) ?_
  change Does Tryz.prog 115 _ _ _
  refine strCount s c ?_
  rw [hn]
  have w1 : IntKind.i64.wrap ((n : Int) + 1) = ((n + 1 : Nat) : Int) := wrap_i64 _ (by omega) (by omega)
  have w2 : IntKind.i64.wrap (((n + 1 : Nat) : Int) - 1) = (n : Int) := by rw [wrap_i64 _ (by omega) (by omega)]; omega
  have w3 : IntKind.i64.wrap ((s.length : Int) + 1) = ((s.length + 1 : Nat) : Int) := wrap_i64 _ (by omega) (by omega)
  have wm : (if IntKind.i64.wrap ((s.length : Int) + 1) < IntKind.i64.wrap ((n : Int) + 1) then IntKind.i64.wrap ((s.length : Int) + 1) else IntKind.i64.wrap ((n : Int) + 1)) = ((n + 1 : Nat) : Int) := by
    rw [w1, w3]
    exact if_neg (by omega)
  refine at2 (by rw [wm]; omega) (Int.le_refl _) ?_
  rw [wm, Int.toNat_natCast]
  refine at2 (by show (16 : Nat) * ((n + 1 : Nat) : Int) ≤ _; omega) (by omega) ?_
  refine SS.loop (fun i : Nat => i ≤ n) (fun i => [(0, st (rs.getD i [])), (1, st [c]), (2, i64 0), (3, i64 n), (9, cv (.slc 0 0 (n + 1) none true)), (10, i64 i)])
    (fun i => [.rows false 1 ((doneS ps n i).map rowStr)]) (fun i => n - i) [] (At.mk' [0, 1, 2, 3, 9, 10] 0 (by simp) ⟨?_, rfl⟩ ?_ rfl (by simp) (by simp) (by simp)) ?_
  · have e0 : rs.getD 0 [] = s := by rw [List.getD_eq_getElem?_getD, hr0]; rfl
    rw [w2, e0]
    rfl
  · show [PO.rows false 1 (List.replicate (n + 1) [FC.str []])] = [PO.rows false 1 ((doneS ps n 0).map rowStr)]
    simp [doneS]
  intro i hi
  change i ≤ n at hi
  refine S_r ?_
  refine brc_intro (fun hlt => ?_) (fun hlt => ?_)
  · have hlt : i < n := by
      have := of_decide_eq_true hlt
      have : (i : Int) < (n : Int) := this
      omega
    obtain ⟨r, p, r', h1, h2, h3, h4, h5, h6, h7, h8⟩ := hP.step i hlt
    have e1 : rs.getD i [] = r := by rw [List.getD_eq_getElem?_getD, h1]; rfl
    have e3 : rs.getD (i + 1) [] = r' := by rw [List.getD_eq_getElem?_getD, h3]; rfl
    rw [e1]
    change Does Tryz.prog 116 _ _ _
    refine Does.alone 1 (index1 r c ?_)
    rw [h4]
    have v0 : IntKind.i64.wrap ((p.length : Int) + 0) = (p.length : Int) := by rw [wrap_i64 _ (by omega) (by omega)]; omega
    have v1 : IntKind.i64.wrap ((p.length : Int) + ([c].length : Nat)) = ((p.length + 1 : Nat) : Int) := wrap_i64 _ (by simp; omega) (by simp; omega)
    have hd : (doneS ps n i).length = n + 1 := by rw [doneS, List.length_append, List.length_take, List.length_replicate, hP.ln]; omega
    obtain ⟨q, hq⟩ : ∃ q, (doneS ps n i)[i]? = some q := ⟨_, List.getElem?_eq_getElem (by omega)⟩
    refine at2 (by rw [v0]; omega) (by rw [v0]; omega) ?_
    refine at2 (a := (0 : Int) ≤ (i : Int)) (b := (i : Int) < ((n + 1 : Nat) : Int)) (by omega) (by omega) (wr1 (rowStr q) (by simp [hq]) ?_)
    refine at2 (by rw [v1]; omega) (by rw [v1]; omega) ?_
    refine At.mk' [0, 1, 2, 3, 9, 10] (i + 1) ⟨hlt, by omega⟩ ⟨?_, rfl⟩ ?_ rfl (by simp) (by simp) (by decide)
    · rw [wrap_i64 ((i : Int) + 1) (by omega) (by omega)]
      rw [v1, e3, Int.toNat_natCast, List.take_of_length_le (by simp), h8]
      rfl
    · show [PO.rows false 1 ((List.map rowStr (doneS ps n i)).set (0 + Int.toNat (i : Int)) [FC.str (List.take ((IntKind.i64.wrap ((p.length : Int) + 0)).toNat - 0) (List.drop 0 r))])] = [PO.rows false 1 (List.map rowStr (doneS ps n (i + 1)))]
      rw [v0, Int.toNat_natCast, Int.toNat_natCast, Nat.zero_add, Nat.sub_zero, List.drop_zero, h7, ← doneS_set h2 (by omega) hP.ln, List.map_set]
  · have hlt : ¬ (i : Int) < (n : Int) := of_decide_eq_false hlt
    obtain rfl : i = n := by omega
    have hd : (doneS ps i i).length = i + 1 := by rw [doneS, List.length_append, List.length_take, List.length_replicate, hP.ln]; omega
    obtain ⟨q, hq⟩ : ∃ q, (doneS ps i i)[i]? = some q := ⟨_, List.getElem?_eq_getElem (by omega)⟩
    obtain ⟨p, hp⟩ : ∃ p, ps[i]? = some p := ⟨_, List.getElem?_eq_getElem (by rw [hP.ln]; omega)⟩
    have e1 : rs.getD i [] = p := by rw [List.getD_eq_getElem?_getD, hP.last, hp]; rfl
    have v2 : IntKind.i64.wrap ((i : Int) + 1) = ((i + 1 : Nat) : Int) := wrap_i64 _ (by omega) (by omega)
    have e4 : ((doneS ps i i).map rowStr).set (0 + Int.toNat (i : Int)) [FC.str p] = ps.map rowStr := by
      rw [Int.toNat_natCast, Nat.zero_add, show [FC.str p] = rowStr p from rfl, ← List.map_set, doneS_set hp (Nat.le_refl _) hP.ln, doneS, Nat.sub_self, List.replicate_zero, List.append_nil, List.take_of_length_le (by rw [hP.ln]; omega)]
    rw [e1]
    refine at2 (a := (0 : Int) ≤ (i : Int)) (b := (i : Int) < ((i + 1 : Nat) : Int)) (by omega) (by omega) (wr1 (rowStr q) (by simp [hq]) ?_)
    have e5 : i + 1 = (IntKind.i64.wrap ((i : Int) + 1)).toNat - 0 := by rw [v2]; rfl
    rw [← e4, e5] at h
    refine Or.inl (at2 (by rw [v2]; omega) (by rw [v2]; omega) ?_)
    exact ⟨1, [0], _, _, rfl, rfl, by decide, by decide, rfl, rfl, rfl, rfl, rfl, h⟩

end
end Go.Mac
