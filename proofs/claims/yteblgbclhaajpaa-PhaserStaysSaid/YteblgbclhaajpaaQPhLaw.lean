/- PhaserComes, PhaserLeaves, PhaserTurns: true. -/
import Derived.Test.YteblgbclhaajpaaQPhaser
import Derived.Test.YteblgbclhaajpaaQPick
open Go Go.Proofs Go.Mac
set_option maxRecDepth 100000
namespace Go.Mac

section
variable {K : AV → List Nat → List PO → Prop}

theorem phaserSome {p : Ph} {w n : Int} (r : Ph) (a : Int) (h : phDo p w n = some (r, a)) (hK : K (.tup [r.c, .c (.f (.int .i64 a)), okC]) [] []) : Does Try.prog 17 [.p p.c, .p (callC w n)] [] K :=
  phaserDo p w n (fun h' => by rw [h] at h'; cases h') fun r' a' h' => by
    rw [h] at h'
    cases h'
    exact hK

theorem phased (hK : K (bl true) [] []) : Does Try.prog 14 [] [] K := by
  refine does Try.func14 rfl (by decide) ?_
  change Does Try.prog 17 _ _ _
  refine Does.alone 1 (phaserSome (p := ⟨false, 0, 2, 2⟩) (w := 7) (n := 0) ⟨false, 0, 2, 1⟩ 0 rfl ?_)
  change Does Try.prog 17 _ _ _
  refine Does.alone 1 (phaserSome (p := ⟨false, 0, 2, 1⟩) (w := 7) (n := 0) ⟨false, 1, 2, 2⟩ 0 rfl ?_)
  change Does Try.prog 17 _ _ _
  refine Does.alone 1 (phaserSome (p := ⟨false, 1, 2, 2⟩) (w := 10) (n := 1) ⟨false, 1, 2, 2⟩ (-4) rfl ?_)
  refine And.intro plainPhase ?_
  exact hK

theorem phaserComes (o : Bool) (ph pa wa n : Int) (_h1 : -9223372036854775808 ≤ n ∧ n ≤ 9223372036854775807) : Does Try.prog 6 [phase o ph pa wa, i64 n] [] fun v _ _ => v = bl true := by
  refine does Try.func6 rfl (by decide) ?_
  change Does Try.prog 14 _ _ _
  refine Does.alone 1 (phased ?_)
  change Does Try.prog 15 _ _ _
  refine Does.alone 1 (packs ?_)
  change Does Try.prog 16 _ _ _
  refine Does.alone 1 (right _ _ _ _ ?_)
  refine brc_intro (fun _ => fin rfl) (fun hr => ?_)
  have hR : rightB ph pa wa = true := by simpa using hr
  have hb := rightB_iff.1 hR
  refine brc_intro (fun ho => fin rfl) (fun ho => ?_)
  subst ho
  change Does Try.prog 18 _ _ _
  refine Does.alone 1 (pick _ _ (by decide) ?_)
  have g1 := pickZ_lt n (n := 65535) (by decide)
  generalize pickZ n 65535 = n' at *
  have e1 : IntKind.i64.wrap (1 + n') = 1 + n' := wrap_i64 _ (by omega) (by omega)
  have hF : fitsB 6 (1 + n') = true := by simp [fitsB]; omega
  change Does Try.prog 17 _ _ _
  rw [e1]
  by_cases hm : pa + (1 + n') > 65535
  · refine Does.alone 1 (phaserSome (p := ⟨false, ph, pa, wa⟩) (w := 6) (n := 1 + n') ⟨false, ph, pa, wa⟩ (-3) (by simp [phDo, Ph.right, hR, hF, hm]) ?_)
    refine brc_intro (fun _ => ?_) (fun h => ?_)
    · refine And.intro plainPhase ?_
      refine fin ?_
      simp
    · have := of_decide_eq_false h
      rw [wrap_i64 _ (by omega) (by omega)] at this
      omega
  · refine Does.alone 1 (phaserSome (p := ⟨false, ph, pa, wa⟩) (w := 6) (n := 1 + n') ⟨false, ph, pa + (1 + n'), wa + (1 + n')⟩ ph (by simp [phDo, Ph.right, hR, hF, hm]) ?_)
    refine brc_intro (fun h => ?_) (fun _ => ?_)
    · have := of_decide_eq_true h
      rw [wrap_i64 _ (by omega) (by omega)] at this
      omega
    · refine brc_intro (fun _ => ?_) (fun h => absurd h (by simp))
      refine And.intro plainPhase ?_
      refine fin ?_
      rw [wrap_i64 (pa + (1 + n')) (by omega) (by omega), wrap_i64 (wa + (1 + n')) (by omega) (by omega)]
      simp

theorem phaserLeaves (o : Bool) (ph pa wa : Int) : Does Try.prog 5 [phase o ph pa wa] [] fun v _ _ => v = bl true := by
  refine does Try.func5 rfl (by decide) ?_
  change Does Try.prog 14 _ _ _
  refine Does.alone 1 (phased ?_)
  change Does Try.prog 15 _ _ _
  refine Does.alone 1 (packs ?_)
  change Does Try.prog 18 _ _ _
  refine Does.alone 1 (pick _ _ (by decide) ?_)
  have g1 := pickZ_lt pa (n := 40) (by decide)
  generalize pickZ pa 40 = m' at *
  obtain ⟨m, hm⟩ := Int.eq_ofNat_of_zero_le (show 0 ≤ 1 + m' by omega)
  change Does Try.prog 16 _ _ _
  rw [wrap_i64 (1 + m') (by omega) (by omega), hm]
  refine Does.alone 1 (right _ _ _ _ ?_)
  refine brc_intro (fun _ => fin rfl) (fun hr => ?_)
  have hR : rightB ph m m = true := by simpa using hr
  have hb := rightB_iff.1 hR
  have hRi : ∀ i : Nat, i < m → rightB ph ((m : Int) - i) ((m : Int) - i) = true := fun i hi => rightB_iff.2 (by omega)
  refine SS.loop (fun i : Nat => i ≤ m) (fun i => [(1, cv (.ptr 0 0)), (30, i64 m), (31, i64 i)]) (fun i => [.one [.f (.bool (decide (i = m))), .f (.int .i64 ph), .f (.int .i64 ((m : Int) - i)), .f (.int .i64 ((m : Int) - i))]]) (fun i => m - i) []
    (At.mk' [1, 30, 31] 0 (by simp) ⟨rfl, rfl⟩ (by simp; omega) rfl (by simp) (by simp) (by simp)) ?_
  · intro i hi
    refine S_r ?_
    refine brc_intro (fun h => ?_) (fun h => ?_)
    · have hlt : i < m := by have := of_decide_eq_true h; omega
      have hne : decide (i = m) = false := by simp; omega
      rw [hne]
      refine SS.inlR ?_
      change Does Try.prog 17 _ _ _
      have hd : phDo ⟨false, ph, (m : Int) - i, (m : Int) - i⟩ 8 0 = some (⟨decide (i + 1 = m), ph, (m : Int) - (i + 1 : Nat), (m : Int) - (i + 1 : Nat)⟩, ph) := by
        have hF : fitsB 8 0 = true := by decide
        simp only [phDo, Ph.right, hRi i hlt, hF]
        by_cases hl : i + 1 = m
        · rw [if_neg (by simp), if_neg (by simp), if_neg (by simp), if_neg (by simp), if_neg (by simp), if_neg (by omega), if_neg (by omega), if_pos (by simp; omega)]
          simp [hl]; omega
        · rw [if_neg (by simp), if_neg (by simp), if_neg (by simp), if_neg (by simp), if_neg (by simp), if_neg (by omega), if_pos (by omega)]
          simp [hl]; omega
      refine Does.alone 1 (phaserSome (p := ⟨false, ph, (m : Int) - i, (m : Int) - i⟩) (w := 8) (n := 0) _ _ hd ?_)
      refine At.mk' [1, 30, 31] (i + 1) ⟨hlt, by omega⟩ ⟨?_, rfl⟩ rfl rfl (by simp) (by simp) (by simp)
      rw [wrap_i64 _ (by omega) (by omega)]
      rfl
    · have h := of_decide_eq_false h
      obtain rfl : m = i := by omega
      rw [show decide (m = m) = true by simp, show (m : Int) - m = 0 by omega]
      change Does Try.prog 17 _ _ _
      refine Does.alone 1 (phaserSome (p := ⟨true, ph, 0, 0⟩) (w := 6) (n := 1) ⟨true, ph, 0, 0⟩ (-1) (by
        have hR0 : rightB ph 0 0 = true := rightB_iff.2 (by omega)
        simp [phDo, Ph.right, hR0, fitsB]) ?_)
      refine And.intro plainPhase ?_
      refine brc_intro (fun _ => ?_) (fun h => absurd h (by simp))
      exact fin rfl

theorem phaserTurns (o : Bool) (ph pa wa f : Int) (_h1 : -9223372036854775808 ≤ f ∧ f ≤ 9223372036854775807) : Does Try.prog 4 [phase o ph pa wa, i64 f] [] fun v _ _ => v = bl true := by
  refine does Try.func4 rfl (by decide) ?_
  change Does Try.prog 14 _ _ _
  refine Does.alone 1 (phased ?_)
  change Does Try.prog 15 _ _ _
  refine Does.alone 1 (packs ?_)
  change Does Try.prog 18 _ _ _
  refine Does.alone 1 (pick _ _ (by decide) ?_)
  have g1 := pickZ_lt pa (n := 40) (by decide)
  generalize pickZ pa 40 = m' at *
  change Does Try.prog 18 _ _ _
  rw [wrap_i64 (1 + m') (by omega) (by omega)]
  refine Does.alone 1 (pick _ _ (by omega) ?_)
  have g2 := pickZ_lt wa (n := 1 + m') (by omega)
  generalize pickZ wa (1 + m') = w' at *
  obtain ⟨m, hm⟩ := Int.eq_ofNat_of_zero_le (show 0 ≤ 1 + m' by omega)
  obtain ⟨w, hw⟩ := Int.eq_ofNat_of_zero_le (show 0 ≤ 1 + w' by omega)
  change Does Try.prog 16 _ _ _
  rw [wrap_i64 (1 + w') (by omega) (by omega), hm, hw]
  refine Does.alone 1 (right _ _ _ _ ?_)
  refine brc_intro (fun _ => fin rfl) (fun hr => ?_)
  have hR : rightB ph m w = true := by simpa using hr
  have hb := rightB_iff.1 hR
  have hRi : ∀ i : Nat, i < w → rightB ph (m : Int) ((w : Int) - i) = true := fun i hi => rightB_iff.2 (by omega)
  change Does Try.prog 18 _ _ _
  refine Does.alone 1 (pick _ _ (by omega) ?_)
  have g3 := pickZ_lt f (n := w) (by omega)
  generalize pickZ f w = f' at *
  refine SS.loop (fun i : Nat => i ≤ w) (fun i => [(1, i64 f'), (2, cv (.ptr 0 0)), (5, cv (.ptr 1 0)), (38, i64 w), (39, i64 i)])
    (fun i => [.one [.f (.bool false), .f (.int .i64 ph), .f (.int .i64 m), .f (.int .i64 w)], .one [.f (.bool false), .f (.int .i64 (if i = w then (ph + 1) % 2147483648 else ph)), .f (.int .i64 m), .f (.int .i64 (if i = w then (m : Int) else (w : Int) - i))]]) (fun i => w - i) []
    (At.mk' [1, 2, 5, 38, 39] 0 (by simp) ⟨rfl, rfl⟩ (by simp [show ¬ 0 = w by omega]) rfl (by simp) (by simp) (by simp)) ?_
  · intro i hi
    refine S_r ?_
    refine brc_intro (fun h => ?_) (fun h => ?_)
    · have hlt : i < w := by have := of_decide_eq_true h; omega
      rw [if_neg (show ¬ i = w by omega), if_neg (show ¬ i = w by omega)]
      have hd : phDo ⟨false, ph, m, (w : Int) - i⟩ 7 0 = some (⟨false, if i + 1 = w then (ph + 1) % 2147483648 else ph, m, if i + 1 = w then (m : Int) else (w : Int) - (i + 1 : Nat)⟩, ph) := by
        have hF : fitsB 7 0 = true := by decide
        simp only [phDo, Ph.right, hRi i hlt, hF]
        by_cases hl : i + 1 = w
        · rw [if_neg (by simp), if_neg (by simp), if_neg (by simp), if_neg (by simp), if_neg (by simp), if_neg (by omega), if_neg (by omega), if_neg (by simp; omega)]
          simp [hl]
        · rw [if_neg (by simp), if_neg (by simp), if_neg (by simp), if_neg (by simp), if_neg (by simp), if_neg (by omega), if_pos (by omega)]
          simp [hl]; omega
      refine SS.inlR ?_
      refine brc_intro (fun hf => ?_) (fun hf => ?_)
      · refine brc_intro (fun h => absurd h (by simp)) (fun _ => ?_)
        have ew : IntKind.i64.wrap ((w : Int) - i) = (w : Int) - i := wrap_i64 _ (by omega) (by omega)
        refine brc_intro (fun h => absurd h (by rw [ew]; simp)) (fun _ => ?_)
        change Does Try.prog 17 _ _ _
        refine Does.alone 2 (phaserSome (p := ⟨false, ph, m, (w : Int) - i⟩) (w := 7) (n := 0) _ _ hd ?_)
        refine brc_intro (fun h => absurd h (by simp)) (fun _ => ?_)
        refine At.mk' [1, 2, 5, 38, 39] (i + 1) ⟨hlt, by omega⟩ ⟨?_, rfl⟩ rfl rfl (by simp) (by simp) (by simp)
        rw [wrap_i64 _ (by omega) (by omega)]
        rfl
      · change Does Try.prog 17 _ _ _
        refine Does.alone 2 (phaserSome (p := ⟨false, ph, m, (w : Int) - i⟩) (w := 7) (n := 0) _ _ hd ?_)
        refine brc_intro (fun h => absurd h (by simp)) (fun _ => ?_)
        refine At.mk' [1, 2, 5, 38, 39] (i + 1) ⟨hlt, by omega⟩ ⟨?_, rfl⟩ rfl rfl (by simp) (by simp) (by simp)
        rw [wrap_i64 _ (by omega) (by omega)]
        rfl
    · have h := of_decide_eq_false h
      obtain rfl : w = i := by omega
      rw [if_pos rfl, if_pos rfl]
      refine And.intro plainPhase ?_
      refine fin ?_
      show (false == false && ((ph + 1) % 2147483648 == Int.tmod (IntKind.i64.wrap (ph + 1)) 2147483648 && ((m : Int) == m && ((m : Int) == m && true)))) = true
      rw [wrap_i64 _ (by omega) (by omega), Int.tmod_eq_emod_of_nonneg (by omega)]
      simp

end
end Go.Mac
