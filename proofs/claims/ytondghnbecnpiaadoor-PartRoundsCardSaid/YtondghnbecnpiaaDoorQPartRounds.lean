/- So often, and no more. -/
import Derived.Test.YtondghnbecnpiaaDoorQPart
import Derived.Test.YtondghnbecnpiaaDoorQPartZ
import Derived.Test.YtondghnbecnpiaaDoorQCut
open Go Go.Proofs Go.Mac
set_option maxRecDepth 100000
namespace Go.Mac

section
variable {K : AV → List Nat → List PO → Prop}

theorem whole (r : Int) (hr : 0 ≤ r ∧ r ≤ 1000) (hK : K (cv (.slc 0 0 8 none true)) [] [.rows false 5 ((wholeP r).map rowIns)]) : Does Tryd.prog 19 [i64 r, cv .nilslc] [] K := by
  refine Does.keep 0 rfl ?_
  refine does Tryd.func19 rfl (by decide) ?_
  refine Or.inl (And.intro rfl (And.intro rfl (And.intro (by decide) (And.intro (by decide) ?_))))
  refine And.intro (by decide) (Or.inl (And.intro rfl (And.intro rfl (And.intro (by decide) (And.intro (by decide) ?_)))))
  rw [wrap_i64 (r + 1) (by omega) (by omega)]
  exact ⟨2, [0], [.rows false 5 ((wholeP r).map rowIns)], cv (.slc 0 0 8 none true), rfl, rfl, by decide, by decide, rfl, rfl, rfl, rfl, rfl, hK⟩

theorem partRounds (x : Int) (_hx : -9223372036854775808 ≤ x ∧ x ≤ 9223372036854775807) : Does Tryd.prog 3 [i64 x] [rtH] fun v _ _ => v = bl true := by
  refine does Tryd.func3 rfl (by decide) ?_
  change Does Tryd.prog 15 _ _ _
  refine Does.alone 1 (pieced ?_)
  change Does Tryd.prog 16 _ _ _
  refine Does.alone 1 (gone ?_)
  change Does Tryd.prog 17 _ _ _
  refine Does.alone 1 (pick x 21 (by decide) ?_)
  have hp := pickZ_lt x (n := 21) (by decide)
  obtain ⟨r, hr⟩ := Int.eq_ofNat_of_zero_le hp.1
  rw [hr] at hp ⊢
  have hok : wholeOk r = true := List.all_eq_true.1 whole_ok r (List.mem_range.2 (by omega))
  simp only [wholeOk, Bool.and_eq_true, beq_iff_eq] at hok
  obtain ⟨⟨⟨ok1, ok2⟩, ok3⟩, ok4⟩ := hok
  change Does Tryd.prog 19 _ _ _
  refine Does.alone 1 (whole r (by omega) ?_)
  refine And.intro rfl ?_
  change Does Tryd.prog 18 _ _ _
  refine Does.nilArg2 1 (by decide) ?_
  have hr1 : ∀ p ∈ [wholeP (r : Int)], rightZ p ((0 : Nat) : Int) = true := fun p hp => by
    simp only [List.mem_singleton] at hp
    subst hp
    exact ok1
  have w0 : WF (mz0 [wholeP (r : Int)] []) := mz0_wf (by simp) (by simp) hr1 (by simp)
  refine Does.on 4 [2, 3] _ _ (coreNew (ps := [wholeP (r : Int)]) (ws := []) (n := 1) (nc := 0) (ro := false) (ro2 := false) rfl rfl (by decide) (by decide) hr1 fun v hv => ?_)
  refine SS.loop (fun p : Nat × VZ => p.1 ≤ 9 * r + 9 ∧ okV p.2) (fun p => [(0, i64 r), (3, cv (.ptr 4 0)), (33, i64 (9 * r + 9 : Nat)), (34, i64 p.1)])
    (fun p => [rtH, .gone, .rows2 false 5 [(wholeP (r : Int)).map rowIns], .rows false 1 []] ++ machS 4 (stepsZ p.1 (mz0 [wholeP (r : Int)] [])) p.2) (fun p => 9 * r + 9 - p.1) [1, 10, 11, 12]
    (At.mk' [0, 3, 33, 34] (0, v) ⟨by simp, hv⟩ ⟨?_, rfl⟩ rfl rfl (by simp) (by simp) (by decide)) ?_
  · rw [wrap_i64 (9 * (r : Int)) (by omega) (by omega), wrap_i64 (9 * (r : Int) + 9) (by omega) (by omega)]
    rfl
  rintro ⟨i, v1⟩ ⟨hi, hv1⟩
  change i ≤ 9 * r + 9 at hi
  have hw1 := stepsZ_wf w0 i
  refine S_r ?_
  refine brc_intro (fun hlt => ?_) (fun hlt => ?_)
  · have hlt : i < 9 * r + 9 := by
      have := of_decide_eq_true hlt
      have : (i : Int) < ((9 * r + 9 : Nat) : Int) := this
      omega
    change Does Tryd.prog 20 _ _ _
    refine Does.on 13 [4, 5, 6, 7, 8, 9, 10, 11, 12] _ _ (coreStep (m := stepsZ i (mz0 [wholeP (r : Int)] [])) (v := v1) hw1 hv1 0 (fun _ v' hv' => ?_) fun _ v' hv' => ?_)
    all_goals
      refine At.mk' [0, 3, 33, 34] (i + 1, v') ⟨⟨by show i + 1 ≤ 9 * r + 9; omega, hv'⟩, by show 9 * r + 9 - (i + 1) < 9 * r + 9 - i; omega⟩ ⟨?_, rfl⟩ rfl rfl (by simp) (by simp) (by decide)
      rw [wrap_i64 (i + 1) (by omega) (by omega)]
      rfl
  · have hlt : ¬ (i : Int) < ((9 * r + 9 : Nat) : Int) := of_decide_eq_false hlt
    obtain rfl : i = 9 * r + 9 := by omega
    generalize stepsZ (9 * r + 9) (mz0 [wholeP (r : Int)] []) = m at *
    change Does Tryd.prog 21 _ _ _
    refine Does.on 13 [4, 5, 6, 7, 8, 9, 10, 11, 12] _ _ (coreEnds (m := m) (v := v1) hw1 ?_)
    rw [ok2]
    change Does Tryd.prog 22 _ _ _
    refine Does.on 13 [4, 5, 6, 7, 8, 9, 10, 11, 12] _ _ (coreEvents (m := m) (v := v1) (by omega) ?_)
    have hev : ∀ (j : Nat) (e : EvZ), m.el[j]? = some e → e.a = 1 + (j : Int) % 2 ∧ e.v = 1 + (j : Int) / 2 ∧ e.t = 0 := fun j e he => by
      have hj := (List.getElem?_eq_some_iff.1 he).1
      have := List.all_eq_true.1 ok4 j (List.mem_range.2 hj)
      rw [he] at this
      simp only [Bool.and_eq_true, beq_iff_eq] at this
      exact ⟨this.1.1, this.1.2, this.2⟩
    refine SS.loop (fun j : Nat => j ≤ m.el.length) (fun j => [(0, i64 r), (5, bl true), (7, cv (.slc 13 0 m.el.length none false)), (46, cv (.slc 13 0 m.el.length none false)), (47, i64 m.el.length), (48, i64 j)])
      (fun _ => [rtH, .gone, .rows2 false 5 [(wholeP (r : Int)).map rowIns], .rows false 1 []] ++ machS 4 m v1 ++ [.rows false 4 (m.el.map rowEv)]) (fun j => m.el.length - j) [1, 10, 11, 12]
      (At.mk' [0, 5, 7, 46, 47, 48] 0 (by simp) ⟨rfl, rfl⟩ rfl rfl (by simp) (by simp) (by decide)) ?_
    intro j hj
    change j ≤ m.el.length at hj
    refine S_r ?_
    refine brc_intro (fun hlt2 => ?_) (fun hlt2 => ?_)
    · have hlt2 : j < m.el.length := by
        have := of_decide_eq_true hlt2
        have : (j : Int) < (m.el.length : Int) := this
        omega
      obtain ⟨e, he⟩ : ∃ e, m.el[j]? = some e := ⟨_, List.getElem?_eq_getElem hlt2⟩
      obtain ⟨e1, e2, e3⟩ := hev j e he
      have w1 : IntKind.i64.wrap (1 + (j : Int).tmod 2) = 1 + (j : Int) % 2 := by
        rw [Int.tmod_eq_emod_of_nonneg (by omega)]
        exact wrap_i64 _ (by omega) (by omega)
      have w2 : IntKind.i64.wrap (1 + IntKind.i64.wrap ((j : Int).tdiv 2)) = 1 + (j : Int) / 2 := by
        rw [Int.tdiv_eq_ediv_of_nonneg (by omega), wrap_i64 ((j : Int) / 2) (by omega) (by omega)]
        exact wrap_i64 _ (by omega) (by omega)
      refine SS.inlR ?_
      refine at2 (a := (0 : Int) ≤ (j : Int)) (b := (j : Int) < (m.el.length : Int)) (by omega) (by omega) (rdA (rowEv e) (gev he) ?_)
      refine brc_intro (fun h => absurd (show (e.a != IntKind.i64.wrap (1 + (j : Int).tmod 2)) = true from h) (by rw [w1, e1]; simp)) (fun _ => ?_)
      refine brc_intro (fun h => absurd (show (e.v != IntKind.i64.wrap (1 + IntKind.i64.wrap ((j : Int).tdiv 2))) = true from h) (by rw [w2, e2]; simp)) (fun _ => ?_)
      refine brc_intro (fun h => absurd (show (e.t != 0) = true from h) (by rw [e3]; decide)) (fun _ => ?_)
      refine At.mk' [0, 5, 7, 46, 47, 48] (j + 1) ⟨by show j + 1 ≤ m.el.length; omega, by omega⟩ ⟨?_, rfl⟩ rfl rfl (by simp) (by simp) (by decide)
      rw [wrap_i64 (j + 1) (by omega) (by omega)]
      rfl
    · refine fin (show ((m.el.length : Int) == IntKind.i64.wrap (2 * (r : Int))) = true from ?_)
      rw [wrap_i64 (2 * (r : Int)) (by omega) (by omega), ok3]
      simp

end
end Go.Mac
