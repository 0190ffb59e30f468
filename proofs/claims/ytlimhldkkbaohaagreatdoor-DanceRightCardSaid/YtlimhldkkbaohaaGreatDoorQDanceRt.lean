/- Programs that may be: DanceRight. -/
import Derived.Test.YtlimhldkkbaohaaGreatDoorQWritten
import Derived.Test.YtlimhldkkbaohaaGreatDoorGDanceF
import Derived.Test.YtlimhldkkbaohaaGreatDoorQDanceC3
import Derived.Test.YtlimhldkkbaohaaGreatDoorQLeaves
open Go Go.Proofs Go.Mac
set_option maxRecDepth 100000
namespace Go.Mac

/-- On one cell less some party's program may not be, if there are two. -/
theorem right_few : ((List.range 6).all fun k => (List.range 15).all fun n => (List.range 7).all fun R =>
    (kindPs (k + 1) (n + 2) R).any fun p => !rightZ p ((kindC (k + 1) (n + 2) : Nat) - 1 : Int)) = true := by decide +kernel

/-- Was one found among the first i? -/
def fewZ (ps : List (List InsZ)) (nc : Nat) (i : Nat) : Bool := decide (nc = 0) || (ps.take i).any fun p => !rightZ p ((nc : Int) - 1)

theorem fewZ_succ {ps : List (List InsZ)} {nc i : Nat} {p : List InsZ} (hp : ps[i]? = some p) : fewZ ps nc (i + 1) = (fewZ ps nc i || !rightZ p ((nc : Int) - 1)) := by
  rw [fewZ, fewZ, List.take_add_one, hp]
  simp [List.any_append, Bool.or_assoc]

set_option maxHeartbeats 2000000 in
theorem danceRight (k : Int) (_hk : -9223372036854775808 ≤ k ∧ k ≤ 9223372036854775807) (n : Int) (_hn : -9223372036854775808 ≤ n ∧ n ≤ 9223372036854775807) (R : Int) (_hR : -9223372036854775808 ≤ R ∧ R ≤ 9223372036854775807) :
    Does Tryz.prog 3 [i64 k, i64 n, i64 R] [rtH, powH] fun v _ _ => v = bl true := by
  refine does Tryz.func3 rfl (by decide) ?_
  change Does Tryz.prog 6 _ _ _
  refine Does.on 2 [0] _ _ (danced ?_)
  change Does Tryz.prog 7 _ _ _
  refine Does.on 2 [1] _ _ (written ?_)
  change Does Tryz.prog 8 _ _ _
  refine Does.alone 2 (ball k n R ?_)
  obtain ⟨k, hk, hk6⟩ := pick6 k
  obtain ⟨n, hn, hn16⟩ := pick16b n
  obtain ⟨R, hR, hR6⟩ := pick7 R
  rw [hk, hn, hR]
  have hK := kindAll hk6 hn16 (show R ≤ 20 by omega)
  have hfew : n ≠ 1 → fewZ (kindPs k n R) (kindC k n) n = true := fun h1 => by
    have h := right_few
    simp only [List.all_eq_true, List.mem_range] at h
    have h2 := h (k - 1) (by omega) (n - 2) (by omega) R (by omega)
    rw [show k - 1 + 1 = k by omega, show n - 2 + 2 = n by omega] at h2
    rw [fewZ, List.take_of_length_le (by rw [hK.len]; exact Nat.le_refl _), h2, Bool.or_true]
  obtain ⟨_, _, hlen, hnc, hright, hcells, hcode⟩ := hK
  generalize kindPs k n R = ps at hfew hlen hright hcode
  generalize kindC k n = nc at hfew hnc hright hcells
  change Does Tryz.prog 9 _ _ _
  refine Does.alone 2 (danceCells (k := (k : Int)) (n := n) (c := nc) (by omega) hcells ?_)
  refine brc_intro (fun h => ?_) (fun _ => ?_)
  · have := of_decide_eq_true h
    omega
  have hf0 : ((nc : Int) == 0) = fewZ ps nc 0 := by
    rw [fewZ, List.take_zero, List.any_nil, Bool.or_false]
    by_cases h : nc = 0
    · subst h; rfl
    · rw [decide_eq_false h]
      simpa using h
  refine SS.loop (fun i : Nat => i ≤ n) (fun i => [(0, i64 k), (1, i64 n), (2, i64 R), (7, i64 nc), (9, bl (fewZ ps nc i)), (45, i64 n), (46, i64 i)]) (fun _ => [rtH, powH]) (fun i => n - i) []
    (At.mk' [0, 1, 2, 7, 9, 45, 46] 0 (by simp) ⟨?_, rfl⟩ rfl rfl (by simp) (by simp) (by simp)) ?_
  · rw [hf0]
    rfl
  intro i hi
  change i ≤ n at hi
  refine S_r ?_
  refine brc_intro (fun hlt => ?_) (fun hlt => ?_)
  · have hlt : i < n := by
      have := of_decide_eq_true hlt
      have : (i : Int) < (n : Int) := this
      omega
    obtain ⟨p, hp⟩ : ∃ p, ps[i]? = some p := ⟨_, List.getElem?_eq_getElem (by omega)⟩
    have hpr := hright p (List.mem_of_getElem? hp)
    have hpl : p.length ≤ 600 := by
      simp only [rightZ, Bool.and_eq_true, decide_eq_true_eq] at hpr
      exact hpr.1.1.2.2
    refine SS.inlR ?_
    change Does Tryz.prog 10 _ _ _
    refine Does.alone 2 (danceCode (by omega) (hcode i p hp) ?_)
    change Does Tryz.prog 11 _ _ _
    refine Does.on 3 [2] _ _ (right (p := p) (k := p.length) nc rfl (by omega) (fun _ => ?_) (fun h => absurd (h.symm.trans hpr) (by decide)) fun h => absurd (h.symm.trans hpr) (by decide))
    have wi : IntKind.i64.wrap ((i : Int) + 1) = ((i + 1 : Nat) : Int) := wrap_i64 _ (by omega) (by omega)
    have hsucc := fewZ_succ (nc := nc) hp
    have fin : ∀ b : Bool, fewZ ps nc (i + 1) = b → True := fun _ _ => trivial
    refine brc_intro (fun hf => ?_) (fun hf => ?_)
    · refine At.mk' [0, 1, 2, 7, 9, 45, 46] (i + 1) ⟨hlt, by omega⟩ ⟨?_, rfl⟩ rfl rfl (by simp) (by simp) (by simp)
      rw [wi, hsucc, hf]
      rfl
    refine brc_intro (fun hc => ?_) (fun hc => ?_)
    · have hc := of_decide_eq_true hc
      have w1 : IntKind.i64.wrap ((nc : Int) - 1) = (nc : Int) - 1 := wrap_i64 _ (by omega) (by omega)
      change Does Tryz.prog 11 _ _ _
      rw [w1]
      refine Does.on 3 [2] _ _ (right (p := p) (k := p.length) ((nc : Int) - 1) rfl (by omega) (fun hr => ?_) (fun hr e => ?_) fun hr e j => ?_)
      · refine At.mk' [0, 1, 2, 7, 9, 45, 46] (i + 1) ⟨hlt, by omega⟩ ⟨?_, rfl⟩ rfl rfl (by simp) (by simp) (by simp)
        rw [wi, hsucc, hf, hr]
        rfl
      · refine At.mk' [0, 1, 2, 7, 9, 45, 46] (i + 1) ⟨hlt, by omega⟩ ⟨?_, rfl⟩ rfl rfl (by simp) (by simp) (by simp)
        rw [wi, hsucc, hf, hr]
        rfl
      · refine At.mk' [0, 1, 2, 7, 9, 45, 46] (i + 1) ⟨hlt, by omega⟩ ⟨?_, rfl⟩ rfl rfl (by simp) (by simp) (by simp)
        rw [wi, hsucc, hf, hr]
        rfl
    · have hc := of_decide_eq_false hc
      exfalso
      have : nc = 0 := by omega
      subst this
      simp [fewZ] at hf
  · have hlt : ¬ (i : Int) < (n : Int) := of_decide_eq_false hlt
    obtain rfl : n = i := by omega
    refine brc_intro (fun _ => rfl) (fun hf => ?_)
    have h1 : n = 1 := Classical.byContradiction fun h => by rw [hfew h] at hf; cases hf
    subst h1
    rfl

end Go.Mac
