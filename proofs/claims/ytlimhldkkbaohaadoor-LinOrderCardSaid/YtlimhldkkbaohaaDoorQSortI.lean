/- slices.SortStableFunc of points: insertion. -/
import Derived.Test.YtlimhldkkbaohaaDoorQSortW
import Derived.Test.YtlimhldkkbaohaaDoorQDrawS
open Go Go.Proofs Go.Mac
set_option maxRecDepth 100000
namespace Go.Mac
attribute [local irreducible] drawnR

theorem set_next (P R : List PtZ) (x y : PtZ) : ((P ++ y :: (x :: R)).set (P.length + 1) y).set P.length x = P ++ x :: (y :: R) := by
  rw [List.set_append_right _ _ (by omega), show P.length + 1 - P.length = 1 by omega, List.set_append_right _ _ (by omega), Nat.sub_self]
  rfl

theorem get_next (P R : List PtZ) (x y : PtZ) : (P ++ y :: (x :: R))[P.length + 1]? = some x := by
  rw [List.getElem?_append_right (by omega), show P.length + 1 - P.length = 1 by omega]; rfl

theorem cmp_lt {x y : Int} : cmpZ x y < 0 ↔ x < y := by
  rw [cmpZ]
  split
  · simp; assumption
  · split <;> simp <;> omega

section
variable {K : AV → List Nat → List PO → Prop}

set_option maxHeartbeats 4000000 in
theorem insertion {A S B : List PtZ} {k a b : Nat} {nn : Bool} (ha : A.length = a) (hb : a + S.length = b) (hk : (A ++ (S ++ B)).length = k) (hkb : k ≤ 1000000)
    (h : ∀ S', St S S' → K undefA [] [.rows false 4 ((A ++ (S' ++ B)).map rowPt)]) :
    Does Tryd.prog 138 [cv (.slc 0 0 k none nn), i64 a, i64 b, pfn] [.rows false 4 ((A ++ (S ++ B)).map rowPt)] K := by
  refine does Tryd.func138 rfl (by decide) ?_
  have hkl := hk
  simp only [List.length_append] at hkl
  have wa1 : IntKind.i64.wrap ((a : Int) + 1) = ((a + 1 : Nat) : Int) := wrap_i64 _ (by omega) (by omega)
  refine SS.loop (fun s : List PtZ × List PtZ => Srt s.1 ∧ Keys S (s.1 ++ s.2) ∧ (S = [] ∧ s.1 = [] ∨ 0 < s.1.length))
    (fun s => [(0, cv (.slc 0 0 k none nn)), (1, i64 a), (2, i64 b), (3, pfn), (8, i64 (a + max 1 s.1.length : Nat))]) (fun s => [.rows false 4 ((A ++ ((s.1 ++ s.2) ++ B)).map rowPt)]) (fun s => s.2.length) []
    (At.mk' [0, 1, 2, 3, 8] (S.take 1, S.drop 1) ⟨?_, ?_, ?_⟩ ⟨?_, rfl⟩ ?_ rfl (by simp) (by simp) (by simp)) ?_
  · cases S with
    | nil => exact List.Pairwise.nil
    | cons s S => exact List.pairwise_singleton _ _
  · rw [List.take_append_drop]; exact .refl _
  · cases S with
    | nil => exact .inl ⟨rfl, rfl⟩
    | cons s S => exact .inr (by simp)
  · rw [wa1, show max 1 (S.take 1).length = 1 by rw [List.length_take]; omega]
  · rw [List.take_append_drop]; rfl
  rintro ⟨P, R⟩ ⟨hs, hkey, hne⟩
  dsimp only at hs hkey hne
  have hkeyl := hkey.len
  rw [List.length_append] at hkeyl
  refine S_r ?_
  refine brc_intro (fun hlt => ?_) (fun hlt => ?_)
  · have hlt : a + max 1 P.length < b := by
      have := of_decide_eq_true hlt
      have : ((a + max 1 P.length : Nat) : Int) < (b : Int) := this
      omega
    have hP : 0 < P.length := by
      rcases hne with ⟨rfl, _⟩ | hne
      · simp at hb; omega
      · exact hne
    have hmx : max 1 P.length = P.length := by omega
    obtain ⟨x, R', rfl⟩ : ∃ x R', R = x :: R' := by
      cases R with
      | nil => simp at hkeyl; omega
      | cons x R' => exact ⟨x, R', rfl⟩
    rw [List.length_cons] at hkeyl
    refine SS.loop (fun s : List PtZ × List PtZ => s.1 ++ s.2 = P ∧ ∀ y ∈ s.2, x.w < y.w)
      (fun s => [(0, cv (.slc 0 0 k none nn)), (1, i64 a), (2, i64 b), (3, pfn), (8, i64 (a + P.length : Nat)), (9, i64 (a + s.1.length : Nat))]) (fun s => [.rows false 4 ((A ++ (s.1 ++ x :: (s.2 ++ (R' ++ B)))).map rowPt)]) (fun s => s.1.length) []
      (At.mk' [0, 1, 2, 3, 8, 9] (P, []) ⟨List.append_nil _, fun y hy => by cases hy⟩ ⟨?_, rfl⟩ ?_ rfl (by simp) (by simp) (by simp)) ?_
    · dsimp only
      rw [hmx]
    · simp
    rintro ⟨P1, P2⟩ ⟨hPe, hP2⟩
    dsimp only at hPe hP2
    have hPl := congrArg List.length hPe
    rw [List.length_append] at hPl
    refine S_r ?_
    refine SS.drawR follows (by decide) ?_
    have fin : (∀ y ∈ P1, y.w ≤ x.w) → Srt (P1 ++ ([x] ++ P2)) ∧ Keys S ((P1 ++ ([x] ++ P2)) ++ R') ∧ (S = [] ∧ P1 ++ ([x] ++ P2) = [] ∨ 0 < (P1 ++ ([x] ++ P2)).length) := fun hle => by
      obtain ⟨s1, s2⟩ := St.back (y := x) (X1 := P1) (X2 := P2) (by rw [hPe]; exact hs) hle hP2
      refine ⟨s1, ?_, .inr (by rw [List.length_append, List.length_append, List.length_singleton]; omega)⟩
      refine hkey.trans ?_
      rw [← hPe, show P1 ++ P2 ++ x :: R' = (P1 ++ P2 ++ [x]) ++ R' by simp]
      exact s2.app (.refl R')
    have hnl : (P1 ++ ([x] ++ P2)).length = P.length + 1 := by simp; omega
    have wi : IntKind.i64.wrap (((a + P.length : Nat) : Int) + 1) = ((a + max 1 (P1 ++ ([x] ++ P2)).length : Nat) : Int) := by rw [wrap_i64 _ (by omega) (by omega), hnl]; omega
    by_cases hP0 : P1 = []
    · subst hP0
      have dj : decide (((a + ([] : List PtZ).length : Nat) : Int) > (a : Int)) = false := decide_eq_false (by simp)
      repeat' (first | refine draw_known (v := bl false) rfl (fun _ => rfl) (fun K' => congrArg (fun z => K' (bl z) [] _) dj) (fun _ => rfl) ?_ | refine draw_known rfl (fun _ => rfl) (fun _ => rfl) (fun _ => rfl) ?_ | refine draw_skip rfl (fun _ => rfl) (fun _ => rfl) ?_ | refine draw_end rfl rfl rfl ?_ | refine draw_eff1 rfl rfl ?_ | refine eff_skip (fun _ => rfl) (fun _ => rfl) ?_ | refine And.intro rfl ?_ | fail)
      refine At.mk' [0, 1, 2, 3, 8] ([] ++ ([x] ++ P2), R') ⟨fin (fun y hy => by cases hy), by dsimp only; simp⟩ ⟨?_, rfl⟩ ?_ rfl (by simp) (by simp) (by simp)
      · dsimp only
        rw [wi]
      · simp
    obtain ⟨Q1, y, rfl⟩ : ∃ Q1 y, P1 = Q1 ++ [y] := ⟨_, _, (List.dropLast_concat_getLast hP0).symm⟩
    have hql : (Q1 ++ [y]).length = Q1.length + 1 := by simp
    have dj : decide (((a + (Q1 ++ [y]).length : Nat) : Int) > (a : Int)) = true := decide_eq_true (by rw [hql]; omega)
    have wj : IntKind.i64.wrap (((a + (Q1 ++ [y]).length : Nat) : Int) - 1) = ((a + Q1.length : Nat) : Int) := by rw [hql, wrap_i64 _ (by omega) (by omega)]; omega
    have hdata : A ++ ((Q1 ++ [y]) ++ x :: (P2 ++ (R' ++ B))) = (A ++ Q1) ++ y :: (x :: (P2 ++ (R' ++ B))) := by simp
    have hAQ : (A ++ Q1).length = a + Q1.length := by rw [List.length_append, ha]
    have r1 : ((A ++ ((Q1 ++ [y]) ++ x :: (P2 ++ (R' ++ B)))).map rowPt)[0 + Int.toNat ((a + (Q1 ++ [y]).length : Nat) : Int)]? = some (rowPt x) := by
      rw [Nat.zero_add, Int.toNat_natCast, List.getElem?_map, hdata, hql, show a + (Q1.length + 1) = (A ++ Q1).length + 1 by omega, get_next]; rfl
    have r2 : ((A ++ ((Q1 ++ [y]) ++ x :: (P2 ++ (R' ++ B)))).map rowPt)[0 + Int.toNat (IntKind.i64.wrap (((a + (Q1 ++ [y]).length : Nat) : Int) - 1))]? = some (rowPt y) := by
      rw [wj, Nat.zero_add, Int.toNat_natCast, List.getElem?_map, hdata, ← hAQ, get_one]; rfl
    have hcl : a + (Q1 ++ [y]).length < k := by
      rw [hql] at hPl ⊢
      omega
    have c1 : (0 : Int) ≤ ((a + (Q1 ++ [y]).length : Nat) : Int) ∧ ((a + (Q1 ++ [y]).length : Nat) : Int) < (k : Int) := by omega
    have c2 : (0 : Int) ≤ IntKind.i64.wrap (((a + (Q1 ++ [y]).length : Nat) : Int) - 1) ∧ IntKind.i64.wrap (((a + (Q1 ++ [y]).length : Nat) : Int) - 1) < (k : Int) := by rw [wj]; omega
    have hs2 : (((A ++ ((Q1 ++ [y]) ++ x :: (P2 ++ (R' ++ B)))).map rowPt).set (0 + Int.toNat ((a + (Q1 ++ [y]).length : Nat) : Int)) (rowPt y)).set (0 + Int.toNat (IntKind.i64.wrap (((a + (Q1 ++ [y]).length : Nat) : Int) - 1))) (rowPt x) = (A ++ (Q1 ++ x :: ((y :: P2) ++ (R' ++ B)))).map rowPt := by
      rw [wj, Nat.zero_add, Nat.zero_add, Int.toNat_natCast, Int.toNat_natCast, ← List.map_set, ← List.map_set, hdata, hql, show a + (Q1.length + 1) = (A ++ Q1).length + 1 by omega, ← hAQ, set_next]
      simp
    repeat' (first | refine draw_known (v := bl true) rfl (fun _ => rfl) (fun K' => congrArg (fun z => K' (bl z) [] _) dj) (fun _ => rfl) ?_ | refine draw_cond (v := cv (.rptr 0 (0 + Int.toNat ((a + (Q1 ++ [y]).length : Nat) : Int)) 0)) (C := (0 : Int) ≤ ((a + (Q1 ++ [y]).length : Nat) : Int) ∧ ((a + (Q1 ++ [y]).length : Nat) : Int) < (k : Int)) rfl (fun _ => rfl) (by intro _ c k; exact ⟨c.1, c.2, k⟩) (by intro _; rfl) c1 ?_ | refine draw_cond (v := cv (.rptr 0 (0 + Int.toNat (IntKind.i64.wrap (((a + (Q1 ++ [y]).length : Nat) : Int) - 1))) 0)) (C := (0 : Int) ≤ IntKind.i64.wrap (((a + (Q1 ++ [y]).length : Nat) : Int) - 1) ∧ IntKind.i64.wrap (((a + (Q1 ++ [y]).length : Nat) : Int) - 1) < (k : Int)) rfl (fun _ => rfl) (by intro _ c k; exact ⟨c.1, c.2, k⟩) (by intro _; rfl) c2 ?_ | refine draw_cond (v := .p (.agg [.f (.int .i64 x.w), .f (.int .i64 x.t), .f (.int .i64 x.k), .f (.bool x.l)])) (C := _) rfl (fun _ => rfl) (by intro _ c k; exact ⟨rowPt x, c, k⟩) (by intro _; rfl) r1 ?_ | refine draw_cond (v := .p (.agg [.f (.int .i64 y.w), .f (.int .i64 y.t), .f (.int .i64 y.k), .f (.bool y.l)])) (C := _) rfl (fun _ => rfl) (by intro _ c k; exact ⟨rowPt y, c, k⟩) (by intro _; rfl) r2 ?_ | refine draw_known rfl (fun _ => rfl) (fun _ => rfl) (fun _ => rfl) ?_ | refine draw_skip rfl (fun _ => rfl) (fun _ => rfl) ?_ | refine draw_end rfl rfl rfl ?_ | fail)
    refine draw_eff1 rfl rfl ?_
    refine eff_run (fun _ => rfl) ?_
    change Does Tryd.prog 87 _ _ _
    refine Does.alone 1 (cmpPt x y ?_)
    repeat' (first | refine And.intro rfl ?_ | refine And.intro (And.intro c1.1 (And.intro c1.2 rfl)) ?_ | refine And.intro (And.intro c2.1 (And.intro c2.2 rfl)) ?_ | refine And.intro (Exists.intro _ (And.intro r1 rfl)) ?_ | refine And.intro (Exists.intro _ (And.intro r2 rfl)) ?_ | fail)
    change drawnR _ _ _ _ _ _ _ _ _ _
    by_cases hxy : x.w < y.w
    · have dx : decide (cmpZ x.w y.w < 0) = true := decide_eq_true (cmp_lt.2 hxy)
      repeat' (first | refine draw_known (v := bl true) rfl (fun _ => rfl) (fun K' => congrArg (fun z => K' (bl z) [] _) dx) (fun _ => rfl) ?_ | refine draw_known rfl (fun _ => rfl) (fun _ => rfl) (fun _ => rfl) ?_ | refine draw_skip rfl (fun _ => rfl) (fun _ => rfl) ?_ | refine draw_end rfl rfl rfl ?_ | fail)
      refine SS.drawR follows (by decide) ?_
      repeat' (first | refine draw_cond (v := cv (.rptr 0 (0 + Int.toNat ((a + (Q1 ++ [y]).length : Nat) : Int)) 0)) (C := (0 : Int) ≤ ((a + (Q1 ++ [y]).length : Nat) : Int) ∧ ((a + (Q1 ++ [y]).length : Nat) : Int) < (k : Int)) rfl (fun _ => rfl) (by intro _ c k; exact ⟨c.1, c.2, k⟩) (by intro _; rfl) c1 ?_ | refine draw_cond (v := cv (.rptr 0 (0 + Int.toNat (IntKind.i64.wrap (((a + (Q1 ++ [y]).length : Nat) : Int) - 1))) 0)) (C := (0 : Int) ≤ IntKind.i64.wrap (((a + (Q1 ++ [y]).length : Nat) : Int) - 1) ∧ IntKind.i64.wrap (((a + (Q1 ++ [y]).length : Nat) : Int) - 1) < (k : Int)) rfl (fun _ => rfl) (by intro _ c k; exact ⟨c.1, c.2, k⟩) (by intro _; rfl) c2 ?_ | refine draw_cond (v := .p (.agg [.f (.int .i64 x.w), .f (.int .i64 x.t), .f (.int .i64 x.k), .f (.bool x.l)])) (C := _) rfl (fun _ => rfl) (by intro _ c k; exact ⟨rowPt x, c, k⟩) (by intro _; rfl) r1 ?_ | refine draw_cond (v := .p (.agg [.f (.int .i64 y.w), .f (.int .i64 y.t), .f (.int .i64 y.k), .f (.bool y.l)])) (C := _) rfl (fun _ => rfl) (by intro _ c k; exact ⟨rowPt y, c, k⟩) (by intro _; rfl) r2 ?_ | refine draw_known rfl (fun _ => rfl) (fun _ => rfl) (fun _ => rfl) ?_ | refine draw_skip rfl (fun _ => rfl) (fun _ => rfl) ?_ | refine draw_end rfl rfl rfl ?_ | fail)
      refine draw_eff1 rfl rfl ?_
      refine eff_run (fun _ => rfl) ?_
      refine wr1 (rowPt x) r1 ?_
      repeat' (first | refine And.intro rfl ?_ | refine And.intro (And.intro c1.1 (And.intro c1.2 rfl)) ?_ | refine And.intro (And.intro c2.1 (And.intro c2.2 rfl)) ?_ | refine And.intro (Exists.intro _ (And.intro r1 rfl)) ?_ | refine And.intro (Exists.intro _ (And.intro r2 rfl)) ?_ | fail)
      change drawnR _ _ _ _ _ _ _ _ _ _
      repeat' (first | refine draw_cond (v := cv (.rptr 0 (0 + Int.toNat (IntKind.i64.wrap (((a + (Q1 ++ [y]).length : Nat) : Int) - 1))) 0)) (C := (0 : Int) ≤ IntKind.i64.wrap (((a + (Q1 ++ [y]).length : Nat) : Int) - 1) ∧ IntKind.i64.wrap (((a + (Q1 ++ [y]).length : Nat) : Int) - 1) < (k : Int)) rfl (fun _ => rfl) (by intro _ c k; exact ⟨c.1, c.2, k⟩) (by intro _; rfl) c2 ?_ | refine draw_known rfl (fun _ => rfl) (fun _ => rfl) (fun _ => rfl) ?_ | refine draw_skip rfl (fun _ => rfl) (fun _ => rfl) ?_ | refine draw_end rfl rfl rfl ?_ | fail)
      refine draw_eff1 rfl rfl ?_
      refine eff_run (fun _ => rfl) ?_
      refine wr1 (rowPt y) (show (((A ++ ((Q1 ++ [y]) ++ x :: (P2 ++ (R' ++ B)))).map rowPt).set (0 + Int.toNat ((a + (Q1 ++ [y]).length : Nat) : Int)) (rowPt y))[0 + Int.toNat (IntKind.i64.wrap (((a + (Q1 ++ [y]).length : Nat) : Int) - 1))]? = some (rowPt y) by rw [List.getElem?_set_ne (by rw [wj, hql]; omega)]; exact r2) ?_
      repeat' (first | refine And.intro rfl ?_ | refine And.intro (And.intro c1.1 (And.intro c1.2 rfl)) ?_ | refine And.intro (And.intro c2.1 (And.intro c2.2 rfl)) ?_ | refine And.intro (Exists.intro _ (And.intro r1 rfl)) ?_ | refine And.intro (Exists.intro _ (And.intro r2 rfl)) ?_ | fail)
      change drawnR _ _ _ _ _ _ _ _ _ _
      refine draw_end rfl rfl rfl ?_
      refine At.mk' [0, 1, 2, 3, 8, 9] (Q1, y :: P2) ⟨⟨by rw [← hPe]; simp, fun z hz => ?_⟩, by dsimp only; rw [hql]; omega⟩ ⟨?_, rfl⟩ ?_ rfl (by simp) (by simp) (by simp)
      · rcases List.mem_cons.1 hz with rfl | hz
        · exact hxy
        · exact hP2 z hz
      · rw [wj]
      · show [PO.rows false 4 _] = [PO.rows false 4 _]
        rw [hs2]
    · have dx : decide (cmpZ x.w y.w < 0) = false := decide_eq_false fun h => hxy (cmp_lt.1 h)
      repeat' (first | refine draw_known (v := bl false) rfl (fun _ => rfl) (fun K' => congrArg (fun z => K' (bl z) [] _) dx) (fun _ => rfl) ?_ | refine draw_known rfl (fun _ => rfl) (fun _ => rfl) (fun _ => rfl) ?_ | refine draw_skip rfl (fun _ => rfl) (fun _ => rfl) ?_ | refine draw_end rfl rfl rfl ?_ | fail)
      refine At.mk' [0, 1, 2, 3, 8] ((Q1 ++ [y]) ++ ([x] ++ P2), R') ⟨fin (fun z hz => ?_), by dsimp only; simp⟩ ⟨?_, rfl⟩ ?_ rfl (by simp) (by simp) (by simp)
      · have hsl : Srt (Q1 ++ [y]) := Srt.left (Y := P2) (by rw [hPe]; exact hs)
        rcases List.mem_append.1 hz with hz | hz
        · have := hsl.le z hz y (by simp)
          omega
        · rw [List.mem_singleton.1 hz]
          omega
      · dsimp only
        rw [wi]
      · simp
  · have hlt : ¬ a + max 1 P.length < b := by
      have := of_decide_eq_false hlt
      have : ¬ ((a + max 1 P.length : Nat) : Int) < (b : Int) := this
      omega
    have hR : R = [] := by
      rcases hne with ⟨rfl, rfl⟩ | hne
      · exact List.length_eq_zero_iff.1 (by simpa using hkeyl)
      · exact List.length_eq_zero_iff.1 (by omega)
    subst hR
    rw [List.append_nil] at hkey ⊢
    exact h P ⟨hs, hkey⟩

end
end Go.Mac
