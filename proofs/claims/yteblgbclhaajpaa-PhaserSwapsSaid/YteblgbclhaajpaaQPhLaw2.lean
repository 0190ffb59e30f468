/- PhaserSwaps, PhaserParts: true. -/
import Derived.Test.YteblgbclhaajpaaQPhLaw
open Go Go.Proofs Go.Mac
set_option maxRecDepth 100000
namespace Go.Mac

abbrev rowCall (w n : Int) : List FC := [.int .i64 w, .int .i64 n]

/-- What one of three calls does to a state of more. -/
def swp (i : Nat) (p : Ph) : Ph :=
  if p.o then p else match i with
  | 0 => ⟨false, p.ph, p.pa, p.wa - 1⟩
  | 1 => ⟨false, p.ph, p.pa - 1, p.wa - 1⟩
  | _ => ⟨false, p.ph, p.pa + 2, p.wa + 2⟩

def swW (i : Nat) : Int := match i with
  | 0 => 7
  | 1 => 8
  | _ => 6

def swN (i : Nat) : Int := match i with
  | 0 => 0
  | 1 => 0
  | _ => 2

def swA (p : Ph) : Int := if p.o then -1 else p.ph

theorem swp_do (i : Nat) (p : Ph) (hR : p.right = true) (h2 : 2 ≤ p.wa) (h6 : p.pa ≤ 60002) : phDo p (swW i) (swN i) = some (swp i p, swA p) := by
  obtain ⟨o, ph, pa, wa⟩ := p
  have hF : fitsB (swW i) (swN i) = true := by rcases i with _ | _ | i <;> rfl
  simp only [phDo, hR, hF]
  cases o with
  | true => rcases i with _ | _ | i <;> simp [swW, swp, swA]
  | false =>
    rcases i with _ | _ | i
    · simp only at h2; simp [swW, swp, swA]; rw [if_neg (by omega), if_pos (by omega)]
    · simp only at h2; simp [swW, swp, swA]; rw [if_neg (by omega), if_pos (by omega)]
    · simp only at h6; simp [swW, swp, swA, swN]; omega

theorem swp_right (i : Nat) (p : Ph) (hR : p.right = true) (h2 : 2 ≤ p.wa) (h6 : p.pa ≤ 60002) : (swp i p).right = true := by
  obtain ⟨o, ph, pa, wa⟩ := p
  have hb := rightB_iff.1 hR
  cases o with
  | true => exact hR
  | false =>
    rcases i with _ | _ | i <;> exact rightB_iff.2 (by simp [swp]; simp at h2 h6 hb; omega)

theorem swp_two (i j : Nat) (p : Ph) : swp j (swp i p) = swp i (swp j p) := by
  obtain ⟨o, ph, pa, wa⟩ := p
  cases o with
  | true => rfl
  | false => rcases i with _ | _ | i <;> rcases j with _ | _ | j <;> simp [swp] <;> omega

theorem swA_swp (i : Nat) (p : Ph) : swA (swp i p) = swA p := by
  obtain ⟨o, ph, pa, wa⟩ := p
  cases o with
  | true => rfl
  | false => rcases i with _ | _ | i <;> rfl

theorem swp_pa (i : Nat) (p : Ph) (h2 : 3 ≤ p.wa) (h6 : p.pa ≤ 60000) : 2 ≤ (swp i p).wa ∧ (swp i p).pa ≤ 60002 := by
  obtain ⟨o, ph, pa, wa⟩ := p
  cases o with
  | true => simp [swp]; simp at h2 h6; omega
  | false => rcases i with _ | _ | i <;> simp [swp] <;> simp at h2 h6 <;> omega

theorem swRow (i : Nat) (hi : i < 3) : ([rowCall 7 0, rowCall 8 0, rowCall 6 2] : List (List FC))[i]? = some (rowCall (swW i) (swN i)) := by
  rcases i with _ | _ | _ | i
  · rfl
  · rfl
  · rfl
  · omega

theorem phaserParts (o : Bool) (ph pa wa a : Int) (_h1 : -9223372036854775808 ≤ a ∧ a ≤ 9223372036854775807) (b : Int) (_h2 : -9223372036854775808 ≤ b ∧ b ≤ 9223372036854775807) (c : Int) (_h3 : -9223372036854775808 ≤ c ∧ c ≤ 9223372036854775807) :
    Does Try.prog 8 [phase o ph pa wa, i64 a, i64 b, i64 c] [] fun v _ _ => v = bl true := by
  refine does Try.func8 rfl (by decide) ?_
  change Does Try.prog 14 _ _ _
  refine Does.alone 1 (phased ?_)
  change Does Try.prog 15 _ _ _
  refine Does.alone 1 (packs ?_)
  change Does Try.prog 18 _ _ _
  refine Does.alone 1 (pick _ _ (by decide) ?_)
  change Does Try.prog 18 _ _ _
  refine Does.alone 1 (pick _ _ (by decide) ?_)
  have g1 := pickZ_lt a (n := 1000) (by decide)
  have g2 := pickZ_lt b (n := 1000) (by decide)
  generalize pickZ a 1000 = a' at *
  generalize pickZ b 1000 = b' at *
  change Does Try.prog 16 _ _ _
  refine Does.alone 1 (right _ _ _ _ ?_)
  rw [wrap_i64 (1 + a') (by omega) (by omega), wrap_i64 (1 + b') (by omega) (by omega)]
  refine brc_intro (fun _ => fin rfl) (fun hr => ?_)
  have hR : rightB ph pa wa = true := by simpa using hr
  have hb := rightB_iff.1 hR
  refine brc_intro (fun _ => fin rfl) (fun ho => ?_)
  have ho : o = false := ho
  subst ho
  have e1 : IntKind.i64.wrap (pa + (1 + a')) = pa + (1 + a') := wrap_i64 _ (by omega) (by omega)
  have e2 : IntKind.i64.wrap (pa + (1 + a') + (1 + b')) = pa + (1 + a') + (1 + b') := wrap_i64 _ (by omega) (by omega)
  refine brc_intro (fun _ => fin rfl) (fun h => ?_)
  have h : ¬ pa + (1 + a') + (1 + b') > 65535 := by rw [e1, e2] at h; exact of_decide_eq_false h
  change Does Try.prog 17 _ _ _
  refine Does.alone 1 (phaserSome (p := ⟨false, ph, pa, wa⟩) (w := 6) (n := 1 + a') ⟨false, ph, pa + (1 + a'), wa + (1 + a')⟩ ph (by
    have hF : fitsB 6 (1 + a') = true := by simp [fitsB]; omega
    simp [phDo, Ph.right, hR, hF]; omega) ?_)
  have hR1 : rightB ph (pa + (1 + a')) (wa + (1 + a')) = true := rightB_iff.2 (by omega)
  change Does Try.prog 17 _ _ _
  refine Does.alone 2 (phaserSome (p := ⟨false, ph, pa + (1 + a'), wa + (1 + a')⟩) (w := 6) (n := 1 + b') ⟨false, ph, pa + (1 + a') + (1 + b'), wa + (1 + a') + (1 + b')⟩ ph (by
    have hF : fitsB 6 (1 + b') = true := by simp [fitsB]; omega
    simp [phDo, Ph.right, hR1, hF]; omega) ?_)
  change Does Try.prog 17 _ _ _
  rw [wrap_i64 (1 + a' + (1 + b')) (by omega) (by omega)]
  refine Does.alone 2 (phaserSome (p := ⟨false, ph, pa, wa⟩) (w := 6) (n := 1 + a' + (1 + b')) ⟨false, ph, pa + (1 + a' + (1 + b')), wa + (1 + a' + (1 + b'))⟩ ph (by
    have hF : fitsB 6 (1 + a' + (1 + b')) = true := by simp [fitsB]; omega
    simp [phDo, Ph.right, hR, hF]; omega) ?_)
  refine SS.drawR follows (by decide) ?_
  have g3 := pickZ_lt c (n := 2147483648) (by decide)
  have hw : phDo ⟨false, ph, pa, wa⟩ 10 (pickZ c 2147483648) = some (⟨false, ph, pa, wa⟩, if ph = pickZ c 2147483648 then -4 else ph) := by
    have hF : fitsB 10 (pickZ c 2147483648) = true := by simp [fitsB]; omega
    unfold phDo
    rw [if_neg (by simp [Ph.right, hR, hF]), if_neg (by simp), if_neg (by decide), if_pos rfl]
    split <;> simp
  have hcl : phDo ⟨false, ph, pa, wa⟩ 11 0 = some (⟨true, ph, pa, wa⟩, 0) := by
    have hF : fitsB 11 0 = true := by decide
    simp [phDo, Ph.right, hR, hF]
  have hcl2 : phDo ⟨true, ph, pa, wa⟩ 11 0 = some (⟨true, ph, pa, wa⟩, -1) := by
    have hF : fitsB 11 0 = true := by decide
    simp [phDo, Ph.right, hR, hF]
  repeat' (first
    | refine And.intro rfl ?_
    | (change Does Try.prog 18 _ _ _; first | refine Does.alone 3 (pick c 2147483648 (by decide) ?_) | refine Does.alone 4 (pick c 2147483648 (by decide) ?_))
    | (change Does Try.prog 17 _ _ _; first | refine Does.alone 3 (phaserSome (p := ⟨false, ph, pa, wa⟩) (w := 10) (n := pickZ c 2147483648) _ _ hw ?_) | refine Does.alone 4 (phaserSome (p := ⟨false, ph, pa, wa⟩) (w := 10) (n := pickZ c 2147483648) _ _ hw ?_))
    | refine And.intro ?_ ?_)
  all_goals
    change Does Try.prog 17 _ _ _
    refine Does.alone 4 (phaserSome (p := ⟨false, ph, pa, wa⟩) (w := 11) (n := 0) _ _ hcl ?_)
    change Does Try.prog 17 _ _ _
    refine Does.alone 5 (phaserSome (p := ⟨true, ph, pa, wa⟩) (w := 11) (n := 0) _ _ hcl2 ?_)
    refine And.intro plainPhase ?_
    refine brc_intro (fun _ => ?_) (fun h => absurd h (by simp; omega))
    refine And.intro plainPhase ?_
    refine brc_intro (fun _ => ?_) (fun h => absurd h (by simp))
    refine brc_intro (fun _ => ?_) (fun h => ?_)
    · refine And.intro plainPhase ?_
      refine brc_intro (fun _ => ?_) (fun h => absurd h (by simp))
      exact fin rfl
    · have hc : ph = pickZ c 2147483648 := by
        split at h
        · assumption
        · simp at h
      refine brc_intro (fun _ => ?_) (fun h => absurd h (by simp [← hc]))
      refine And.intro plainPhase ?_
      refine brc_intro (fun _ => ?_) (fun h => absurd h (by simp))
      exact fin rfl

set_option maxHeartbeats 8000000 in
theorem phaserSwaps (o : Bool) (ph pa wa a : Int) (_h1 : -9223372036854775808 ≤ a ∧ a ≤ 9223372036854775807) (b : Int) (_h2 : -9223372036854775808 ≤ b ∧ b ≤ 9223372036854775807) : Does Try.prog 7 [phase o ph pa wa, i64 a, i64 b] [] fun v _ _ => v = bl true := by
  refine does Try.func7 rfl (by decide) ?_
  change Does Try.prog 14 _ _ _
  refine Does.alone 1 (phased ?_)
  change Does Try.prog 15 _ _ _
  refine Does.alone 1 (packs ?_)
  change Does Try.prog 16 _ _ _
  refine Does.alone 1 (right _ _ _ _ ?_)
  refine brc_intro (fun _ => fin rfl) (fun hr => ?_)
  have hR : Ph.right ⟨o, ph, pa, wa⟩ = true := by
    have : rightB ph pa wa = true := by simpa using hr
    exact this
  refine brc_intro (fun _ => fin rfl) (fun h3 => ?_)
  have h3 : ¬ wa < 3 := of_decide_eq_false h3
  refine brc_intro (fun _ => fin rfl) (fun h6 => ?_)
  have h6 : ¬ pa > 60000 := of_decide_eq_false h6
  refine SS.drawR follows (by decide) ?_
  have g1 := pickZ_lt a (n := 3) (by decide)
  have g2 := pickZ_lt b (n := 3) (by decide)
  obtain ⟨i, hi⟩ := Int.eq_ofNat_of_zero_le g1.1
  obtain ⟨j, hj⟩ := Int.eq_ofNat_of_zero_le g2.1
  have pA : ∀ {K}, K (i64 i) [] [] → Does Try.prog 18 [i64 a, i64 3] [] K := fun h => pick a 3 (by decide) (by rw [hi]; exact h)
  have pB : ∀ {K}, K (i64 j) [] [] → Does Try.prog 18 [i64 b, i64 3] [] K := fun h => pick b 3 (by decide) (by rw [hj]; exact h)
  rw [hi] at g1
  rw [hj] at g2
  have rI : ([rowCall 7 0, rowCall 8 0, rowCall 6 2] : List (List FC))[0 + Int.toNat (i : Int)]? = some (rowCall (swW i) (swN i)) := by rw [show 0 + Int.toNat (i : Int) = i by simp]; exact swRow i (by omega)
  have rJ : ([rowCall 7 0, rowCall 8 0, rowCall 6 2] : List (List FC))[0 + Int.toNat (j : Int)]? = some (rowCall (swW j) (swN j)) := by rw [show 0 + Int.toNat (j : Int) = j by simp]; exact swRow j (by omega)
  have bI := swp_pa i ⟨o, ph, pa, wa⟩ (by simp only; omega) (by simp only; omega)
  have bJ := swp_pa j ⟨o, ph, pa, wa⟩ (by simp only; omega) (by simp only; omega)
  have d1 := swp_do i ⟨o, ph, pa, wa⟩ hR (by simp only; omega) (by simp only; omega)
  have d2 := swp_do j (swp i ⟨o, ph, pa, wa⟩) (swp_right i _ hR (by simp only; omega) (by simp only; omega)) bI.1 bI.2
  have d3 := swp_do j ⟨o, ph, pa, wa⟩ hR (by simp only; omega) (by simp only; omega)
  have d4 := swp_do i (swp j ⟨o, ph, pa, wa⟩) (swp_right j _ hR (by simp only; omega) (by simp only; omega)) bJ.1 bJ.2
  repeat' (first
    | refine And.intro rfl ?_
    | refine And.intro (at2 (by omega) (by omega) rfl) ?_
    | refine And.intro (rdA (rowCall (swW i) (swN i)) rI rfl) ?_
    | refine And.intro (rdA (rowCall (swW j) (swN j)) rJ rfl) ?_
    | (change Does Try.prog 18 _ _ _; first | refine Does.alone 2 (pA ?_) | refine Does.alone 3 (pA ?_) | refine Does.alone 4 (pA ?_) | refine Does.alone 2 (pB ?_) | refine Does.alone 3 (pB ?_) | refine Does.alone 4 (pB ?_))
    | refine at2 (by omega) (by omega) (rdA (rowCall (swW i) (swN i)) rI ?_)
    | refine at2 (by omega) (by omega) (rdA (rowCall (swW j) (swN j)) rJ ?_)
    | refine And.intro ?_ ?_)
  all_goals
    change Does Try.prog 17 _ _ _
    refine Does.alone 4 (phaserSome (p := ⟨o, ph, pa, wa⟩) (w := swW i) (n := swN i) _ _ d1 ?_)
    change Does Try.prog 17 _ _ _
    refine Does.alone 5 (phaserSome (p := swp i ⟨o, ph, pa, wa⟩) (w := swW j) (n := swN j) _ _ d2 ?_)
    change Does Try.prog 17 _ _ _
    refine Does.alone 5 (phaserSome (p := ⟨o, ph, pa, wa⟩) (w := swW j) (n := swN j) _ _ d3 ?_)
    change Does Try.prog 17 _ _ _
    refine Does.alone 6 (phaserSome (p := swp j ⟨o, ph, pa, wa⟩) (w := swW i) (n := swN i) _ _ d4 ?_)
    refine And.intro plainPhase ?_
    refine brc_intro (fun _ => ?_) (fun h => absurd h (by rw [swp_two i j]; simp))
    refine brc_intro (fun _ => ?_) (fun h => absurd h (by rw [swA_swp]; simp))
    exact fin (by rw [swA_swp]; simp)

end Go.Mac
