/- LinParts: point by point. -/
import Derived.Test.YtlimhldkkbaohaaQReplay
import Derived.Test.YtlimhldkkbaohaaQConcat
import Derived.Test.YtlimhldkkbaohaaGBase
import Derived.Test.YtlimhldkkbaohaaQPhLaw
open Go Go.Proofs Go.Mac
set_option maxRecDepth 100000
namespace Go.Mac

section
variable {K : AV → List Nat → List PO → Prop}

theorem lateIdx {all pts : List PtZ} {o k : Nat} {ro nn : Bool} {c : Option Nat} (hk : pts.length = k) (hb : k ≤ 1000000) (ho : ∀ i, i < k → all[o + i]? = pts[i]?)
    (h1 : ∀ i : Nat, (∃ x ∈ pts, x.l = true) → K (i64 i) [] [.rows ro 4 (all.map rowPt)]) (h0 : (∀ x ∈ pts, x.l = false) → K (i64 (-1)) [] [.rows ro 4 (all.map rowPt)]) :
    Does Try.prog 12 [cv (.slc 0 o k c nn), cv (.func 7 [])] [.rows ro 4 (all.map rowPt)] K := by
  refine does Try.func12 rfl (by decide) ?_
  refine SS.loop (fun i : Nat => i ≤ k ∧ ∀ j x, j < i → pts[j]? = some x → x.l = false) (fun i => [(0, cv (.slc 0 o k c nn)), (1, cv (.func 7 [])), (7, i64 k), (8, i64 i)]) (fun _ => [.rows ro 4 (all.map rowPt)]) (fun i => k - i) []
    (At.mk' [0, 1, 7, 8] 0 ⟨Nat.zero_le _, fun j x h => by omega⟩ ⟨rfl, rfl⟩ rfl rfl (by simp) (by simp) (by simp)) ?_
  rintro i ⟨hi, hj⟩
  change i ≤ k at hi
  refine S_r ?_
  refine brc_intro (fun hlt => ?_) (fun hlt => ?_)
  · have hlt : i < k := by
      have := of_decide_eq_true hlt
      have : (i : Int) < (k : Int) := this
      omega
    obtain ⟨x, hx⟩ : ∃ x, pts[i]? = some x := ⟨_, List.getElem?_eq_getElem (by omega)⟩
    have hxa : (all.map rowPt)[o + Int.toNat (i : Int)]? = some (rowPt x) := by rw [Int.toNat_natCast, List.getElem?_map, ho i hlt, hx]; rfl
    have wr : IntKind.i64.wrap ((i : Int) + 1) = ((i + 1 : Nat) : Int) := wrap_i64 _ (by omega) (by omega)
    refine SS.inlR ?_
    refine at2 (a := (0 : Int) ≤ (i : Int)) (b := (i : Int) < (k : Int)) (by omega) (by omega) (rdA (rowPt x) hxa ?_)
    change Does Try.prog 7 _ _ _
    refine Does.alone 1 ?_
    refine does Try.func7 rfl (by decide) ?_
    refine brc_intro (fun hl => ?_) (fun hl => ?_)
    · exact h1 i ⟨x, List.mem_of_getElem? hx, hl⟩
    · refine At.mk' [0, 1, 7, 8] (i + 1) ⟨⟨hlt, fun j y hj' hy => ?_⟩, by omega⟩ ⟨?_, rfl⟩ rfl rfl (by simp) (by simp) (by simp)
      · rcases Nat.lt_succ_iff_lt_or_eq.1 hj' with h | rfl
        · exact hj j y h hy
        · rw [hx] at hy
          obtain rfl := Option.some.inj hy
          exact hl
      · rw [wr]
  · have hlt : ¬ (i : Int) < (k : Int) := of_decide_eq_false hlt
    obtain rfl : i = k := by omega
    exact h0 fun x hx => by
      obtain ⟨j, hj'⟩ := List.mem_iff_getElem?.1 hx
      have := (List.getElem?_eq_some_iff.1 hj').1
      exact hj j x (by omega) hj'

theorem anyLate {all pts : List PtZ} {o k : Nat} {ro nn : Bool} {c : Option Nat} (hk : pts.length = k) (hb : k ≤ 1000000) (ho : ∀ i, i < k → all[o + i]? = pts[i]?)
    (h1 : (∃ x ∈ pts, x.l = true) → K (bl true) [] [.rows ro 4 (all.map rowPt)]) (h0 : (∀ x ∈ pts, x.l = false) → K (bl false) [] [.rows ro 4 (all.map rowPt)]) :
    Does Try.prog 6 [cv (.slc 0 o k c nn), cv (.func 7 [])] [.rows ro 4 (all.map rowPt)] K := by
  refine does Try.func6 rfl (by decide) ?_
  change Does Try.prog 12 _ _ _
  refine lateIdx (pts := pts) hk hb ho (fun i he => ?_) fun he => ?_
  · refine eqb (K := fun b => K (bl b) [] _) (h1 he) ?_
    exact (decide_eq_true (show (i : Int) ≥ 0 by omega)).symm
  · exact h0 he

end

set_option maxHeartbeats 4000000 in
theorem linParts (o : Bool) (ph pa wa : Int) (calls : List (List CallZ)) (hc : ∀ xs ∈ calls, xs.length ≤ 9223372036854775807) (pts : List PtZ) (hp : pts.length ≤ 9223372036854775807) (a : Int) (_ha : -9223372036854775808 ≤ a ∧ a ≤ 9223372036854775807) :
    Does Try.prog 3 [phase o ph pa wa, cv (.slc 0 0 calls.length none false), cv (.slc 1 0 pts.length none false), i64 a] [.rows2 true 2 (calls.map fun xs => xs.map rowCallZ), .rows true 4 (pts.map rowPt)] fun v _ _ => v = bl true := by
  refine does Try.func3 rfl (by decide) ?_
  change Does Try.prog 4 _ _ _
  refine Does.alone 3 (phased ?_)
  refine brc_intro (fun _ => rfl) (fun h1 => ?_)
  refine brc_intro (fun _ => rfl) (fun h2 => ?_)
  have h1 : calls.length ≤ 16 := by
    have := of_decide_eq_false h1
    omega
  have h2 : pts.length ≤ 60 := by
    have := of_decide_eq_false h2
    omega
  have wl : IntKind.i64.wrap ((pts.length : Int) + 1) = ((pts.length + 1 : Nat) : Int) := wrap_i64 _ (by omega) (by omega)
  change Does Try.prog 5 _ _ _
  rw [wl]
  refine Does.alone 3 (pick a ((pts.length + 1 : Nat) : Int) (by omega) ?_)
  have hpk := pickZ_lt a (n := ((pts.length + 1 : Nat) : Int)) (by omega)
  obtain ⟨t, ht⟩ := Int.eq_ofNat_of_zero_le hpk.1
  rw [ht] at hpk ⊢
  have htl : t ≤ pts.length := by omega
  have hdl : (pts.drop t).length = pts.length - t := List.length_drop ..
  have htk : (pts.take t).length = t := by rw [List.length_take]; omega
  refine Or.inl (at2 (by omega) (by omega) ?_)
  rw [Int.toNat_natCast]
  change Does Try.prog 6 _ _ _
  refine Does.on 3 [1] _ _ (anyLate (all := pts) (pts := pts.drop t) (o := 0 + t) hdl (by omega) (fun i _ => by rw [List.getElem?_drop, Nat.zero_add]) (fun _ => ?_) fun hl => ?_)
  · exact rfl
  obtain ⟨hpn, hps⟩ := rp_parts (calls := calls) (p := ⟨o, ph, pa, wa⟩) (f := fun _ => 0) hl
  change Does Try.prog 8 _ _ _
  refine Does.on 3 [0, 1] _ _ (replay (all := pts) (pts := pts) (o := 0) ⟨o, ph, pa, wa⟩ rfl h1 rfl h2 (fun i _ => by rw [Nat.zero_add]) hc (fun hN e i => ?_) fun q outs hS => ?_)
  · have hlo : (0 : Int) ≤ (t : Int) := by omega
    have hhi : (t : Int) ≤ (pts.length : Int) := by omega
    refine SS.drawR follows (by decide) ?_
    refine Or.inl (at2 hlo hhi ?_)
    refine And.intro ?_ ?_
    · change Does Try.prog 8 _ _ _
      refine Does.on 5 [0, 1] _ _ (replay (all := pts) (pts := pts.take t) (o := 0) ⟨o, ph, pa, wa⟩ rfl h1 htk (by omega) (fun i hi => by rw [Nat.zero_add, List.getElem?_take_of_lt hi]) hc (fun hN e i => ?_) fun q outs hS => ?_)
      · repeat' (first | refine And.intro rfl ?_ | refine And.intro (Or.inl (And.intro hlo (And.intro hhi rfl))) ?_ | fail)
        exact rfl
      · repeat' (first | refine And.intro rfl ?_ | refine And.intro (Or.inl (And.intro hlo (And.intro hhi rfl))) ?_ | fail)
        exact rfl
    · repeat' (first | refine And.intro rfl ?_ | refine And.intro (Or.inl (And.intro hlo (And.intro hhi rfl))) ?_ | fail)
      change Does Try.prog 8 _ _ _
      refine Does.on 6 [0, 1] _ _ (replay (all := pts) (pts := pts.take t) (o := 0) ⟨o, ph, pa, wa⟩ rfl h1 htk (by omega) (fun i hi => by rw [Nat.zero_add, List.getElem?_take_of_lt hi]) hc (fun hN e i => ?_) fun q outs hS => ?_)
      · repeat' (first | refine And.intro rfl ?_ | refine And.intro (Or.inl (And.intro hlo (And.intro hhi rfl))) ?_ | fail)
        exact rfl
      · repeat' (first | refine And.intro rfl ?_ | refine And.intro (Or.inl (And.intro hlo (And.intro hhi rfl))) ?_ | fail)
        exact rfl
  · refine SS.drawR follows (by decide) ?_
    have hlo : (0 : Int) ≤ (t : Int) := by omega
    have hhi : (t : Int) ≤ (pts.length : Int) := by omega
    have hpl : (pts.length : Int) ≤ (pts.length : Int) := Int.le_refl _
    refine Or.inl (at2 hlo hhi ?_)
    refine And.intro ?_ ?_
    · skip
      change Does Try.prog 8 _ _ _
      refine Does.on 5 [0, 1] _ _ (replay (all := pts) (pts := pts.take t) (o := 0) ⟨o, ph, pa, wa⟩ rfl h1 htk (by omega) (fun i hi => by rw [Nat.zero_add, List.getElem?_take_of_lt hi]) hc (fun hN e i => ?_) fun q2 outs2 hS2 => ?_)
      · exfalso
        rw [hpn.2 (.inl hN)] at hS
        cases hS
      have ho2 := rp_len calls _ _ _ _ hS2
      dsimp only at ho2
      repeat' (first | refine And.intro rfl ?_ | refine And.intro (Or.inl (And.intro hlo (And.intro hhi rfl))) ?_ | refine And.intro (Or.inl (And.intro hlo (And.intro hhi (And.intro hpl rfl)))) ?_ | fail)
      refine SS.drawR follows (by decide) ?_
      refine Or.inl (at2 hlo hhi ?_)
      refine And.intro ?_ ?_
      · skip
        change Does Try.prog 8 _ _ _
        refine Does.on 7 [0, 1] _ _ (replay (all := pts) (pts := pts.drop t) (o := 0 + t) q2 rfl h1 hdl (by omega) (fun i _ => by rw [List.getElem?_drop, Nat.zero_add]) hc (fun hN3 e i => ?_) fun q3 outs3 hS3 => ?_)
        · exfalso
          rw [hpn.2 (.inr ⟨_, hS2, hN3⟩)] at hS
          cases hS
        have ho3 := rp_len calls _ _ _ _ hS3
        dsimp only at ho3
        repeat' (first | refine And.intro rfl ?_ | refine And.intro (Or.inl (And.intro hlo (And.intro hhi rfl))) ?_ | refine And.intro (Or.inl (And.intro hlo (And.intro hhi (And.intro hpl rfl)))) ?_ | fail)
        have hfull := hps _ _ hS2 hS3
        rw [hS] at hfull
        cases hfull
        refine And.intro plainPhase ?_
        refine brc_intro (fun _ => ?_) (fun h => ?_)
        · refine And.intro (by simp) (And.intro (by simp) ?_)
          change Does Try.prog 10 _ _ _
          refine Does.on 10 [9] _ _ (concat2 outs2 outs3 (by omega) fun b => ?_)
          change Does Try.prog 9 _ _ _
          rw [← List.length_append]
          refine Does.on 11 [3, 10] _ _ (equalInt (xs := outs2 ++ outs3) (ys := outs2 ++ outs3) (by rw [List.length_append]; omega) (fun _ => ?_) fun h => absurd rfl h)
          exact rfl
        · exfalso
          simp at h
      · repeat' (first | refine And.intro rfl ?_ | refine And.intro (Or.inl (And.intro hlo (And.intro hhi rfl))) ?_ | refine And.intro (Or.inl (And.intro hlo (And.intro hhi (And.intro hpl rfl)))) ?_ | fail)
        change Does Try.prog 8 _ _ _
        refine Does.on 8 [0, 1] _ _ (replay (all := pts) (pts := pts.drop t) (o := 0 + t) q2 rfl h1 hdl (by omega) (fun i _ => by rw [List.getElem?_drop, Nat.zero_add]) hc (fun hN3 e i => ?_) fun q3 outs3 hS3 => ?_)
        · exfalso
          rw [hpn.2 (.inr ⟨_, hS2, hN3⟩)] at hS
          cases hS
        have ho3 := rp_len calls _ _ _ _ hS3
        dsimp only at ho3
        repeat' (first | refine And.intro rfl ?_ | refine And.intro (Or.inl (And.intro hlo (And.intro hhi rfl))) ?_ | refine And.intro (Or.inl (And.intro hlo (And.intro hhi (And.intro hpl rfl)))) ?_ | fail)
        have hfull := hps _ _ hS2 hS3
        rw [hS] at hfull
        cases hfull
        refine And.intro plainPhase ?_
        refine brc_intro (fun _ => ?_) (fun h => ?_)
        · refine And.intro (by simp) (And.intro (by simp) ?_)
          change Does Try.prog 10 _ _ _
          refine Does.on 10 [9] _ _ (concat2 outs2 outs3 (by omega) fun b => ?_)
          change Does Try.prog 9 _ _ _
          rw [← List.length_append]
          refine Does.on 11 [3, 10] _ _ (equalInt (xs := outs2 ++ outs3) (ys := outs2 ++ outs3) (by rw [List.length_append]; omega) (fun _ => ?_) fun h => absurd rfl h)
          exact rfl
        · exfalso
          simp at h
    · repeat' (first | refine And.intro rfl ?_ | refine And.intro (Or.inl (And.intro hlo (And.intro hhi rfl))) ?_ | refine And.intro (Or.inl (And.intro hlo (And.intro hhi (And.intro hpl rfl)))) ?_ | fail)
      change Does Try.prog 8 _ _ _
      refine Does.on 6 [0, 1] _ _ (replay (all := pts) (pts := pts.take t) (o := 0) ⟨o, ph, pa, wa⟩ rfl h1 htk (by omega) (fun i hi => by rw [Nat.zero_add, List.getElem?_take_of_lt hi]) hc (fun hN e i => ?_) fun q2 outs2 hS2 => ?_)
      · exfalso
        rw [hpn.2 (.inl hN)] at hS
        cases hS
      have ho2 := rp_len calls _ _ _ _ hS2
      dsimp only at ho2
      repeat' (first | refine And.intro rfl ?_ | refine And.intro (Or.inl (And.intro hlo (And.intro hhi rfl))) ?_ | refine And.intro (Or.inl (And.intro hlo (And.intro hhi (And.intro hpl rfl)))) ?_ | fail)
      refine SS.drawR follows (by decide) ?_
      refine Or.inl (at2 hlo hhi ?_)
      refine And.intro ?_ ?_
      · skip
        change Does Try.prog 8 _ _ _
        refine Does.on 7 [0, 1] _ _ (replay (all := pts) (pts := pts.drop t) (o := 0 + t) q2 rfl h1 hdl (by omega) (fun i _ => by rw [List.getElem?_drop, Nat.zero_add]) hc (fun hN3 e i => ?_) fun q3 outs3 hS3 => ?_)
        · exfalso
          rw [hpn.2 (.inr ⟨_, hS2, hN3⟩)] at hS
          cases hS
        have ho3 := rp_len calls _ _ _ _ hS3
        dsimp only at ho3
        repeat' (first | refine And.intro rfl ?_ | refine And.intro (Or.inl (And.intro hlo (And.intro hhi rfl))) ?_ | refine And.intro (Or.inl (And.intro hlo (And.intro hhi (And.intro hpl rfl)))) ?_ | fail)
        have hfull := hps _ _ hS2 hS3
        rw [hS] at hfull
        cases hfull
        refine And.intro plainPhase ?_
        refine brc_intro (fun _ => ?_) (fun h => ?_)
        · refine And.intro (by simp) (And.intro (by simp) ?_)
          change Does Try.prog 10 _ _ _
          refine Does.on 10 [9] _ _ (concat2 outs2 outs3 (by omega) fun b => ?_)
          change Does Try.prog 9 _ _ _
          rw [← List.length_append]
          refine Does.on 11 [3, 10] _ _ (equalInt (xs := outs2 ++ outs3) (ys := outs2 ++ outs3) (by rw [List.length_append]; omega) (fun _ => ?_) fun h => absurd rfl h)
          exact rfl
        · exfalso
          simp at h
      · repeat' (first | refine And.intro rfl ?_ | refine And.intro (Or.inl (And.intro hlo (And.intro hhi rfl))) ?_ | refine And.intro (Or.inl (And.intro hlo (And.intro hhi (And.intro hpl rfl)))) ?_ | fail)
        change Does Try.prog 8 _ _ _
        refine Does.on 8 [0, 1] _ _ (replay (all := pts) (pts := pts.drop t) (o := 0 + t) q2 rfl h1 hdl (by omega) (fun i _ => by rw [List.getElem?_drop, Nat.zero_add]) hc (fun hN3 e i => ?_) fun q3 outs3 hS3 => ?_)
        · exfalso
          rw [hpn.2 (.inr ⟨_, hS2, hN3⟩)] at hS
          cases hS
        have ho3 := rp_len calls _ _ _ _ hS3
        dsimp only at ho3
        repeat' (first | refine And.intro rfl ?_ | refine And.intro (Or.inl (And.intro hlo (And.intro hhi rfl))) ?_ | refine And.intro (Or.inl (And.intro hlo (And.intro hhi (And.intro hpl rfl)))) ?_ | fail)
        have hfull := hps _ _ hS2 hS3
        rw [hS] at hfull
        cases hfull
        refine And.intro plainPhase ?_
        refine brc_intro (fun _ => ?_) (fun h => ?_)
        · refine And.intro (by simp) (And.intro (by simp) ?_)
          change Does Try.prog 10 _ _ _
          refine Does.on 10 [9] _ _ (concat2 outs2 outs3 (by omega) fun b => ?_)
          change Does Try.prog 9 _ _ _
          rw [← List.length_append]
          refine Does.on 11 [3, 10] _ _ (equalInt (xs := outs2 ++ outs3) (ys := outs2 ++ outs3) (by rw [List.length_append]; omega) (fun _ => ?_) fun h => absurd rfl h)
          exact rfl
        · exfalso
          simp at h

end Go.Mac
