/- FairMore, FairRounds: true. -/
import Derived.Test.YtgmflgcifhaeiaaQRounds
import Derived.Test.YtgmflgcifhaeiaaQPick
open Go Go.Proofs Go.Mac
set_option maxRecDepth 100000
namespace Go.Mac

theorem Fair.more {l : List Int} {n w w' : Int} (h : Fair l n w) (hw : w ≤ w') : Fair l n w' :=
  ⟨h.1, h.2.1, by have := h.2.2.1; omega, fun i hi t ht => by have := h.2.2.2 i hi t ht; omega⟩

theorem Fair.fewer {l : List Int} {n m w : Int} (h : Fair l n w) (h0 : 0 ≤ m) (hm : m ≤ n) : Fair l m w :=
  ⟨h0, by have := h.2.1; omega, h.2.2.1, fun i hi t ht => h.2.2.2 i hi t (by omega)⟩

theorem Fair.piece {l : List Int} {n w : Int} (h : Fair l n w) (f k : Nat) (hk : f + k ≤ l.length) : Fair ((l.drop f).take k) n w :=
  ⟨h.1, h.2.1, h.2.2.1, fun i hi t ht => by
    have hi : i < k := by simp at hi; omega
    have h1 := h.2.2.2 (f + i) (by omega) t ht
    rw [gap_iff] at h1 ⊢
    have hg : ∀ j, j < k → ((l.drop f).take k)[j]? = l[f + j]? := fun j hj => by rw [List.getElem?_take_of_lt hj, List.getElem?_drop]
    rcases h1 with h1 | ⟨j, h2, h3, h4⟩
    · left; omega
    · rcases Nat.lt_or_ge j f with hj | hj
      · left; omega
      · right
        refine ⟨j - f, by omega, by omega, ?_⟩
        rw [hg _ (by omega), show f + (j - f) = j by omega]
        exact h4⟩

theorem fairIsAt {K : AV → List Nat → List PO → Prop} {ro : Bool} {all : List Int} {o : Nat} {c : Option Nat} {nn : Bool} (l : List Int) (k : Nat) (hk : l.length = k) (n w : Int) (hl : ∀ i, i < l.length → all[o + i]? = l[i]?) (hlen : l.length < 4611686018427387904) (hw : -4611686018427387904 ≤ w ∧ w ≤ 4611686018427387904)
    (hK : ∀ b : Bool, (b = true ↔ Fair l n w) → K (bl b) [] [.rows ro 1 (all.map rowZ)]) : Does Try.prog 23 [cv (.slc 0 o k c nn), i64 n, i64 w] [.rows ro 1 (all.map rowZ)] K := by
  subst hk
  exact fairIs n w hl hlen hw hK

theorem fairMore (l : List Int) (_hl : ∀ x ∈ l, -9223372036854775808 ≤ x ∧ x ≤ 9223372036854775807) (n : Int) (_h1 : -9223372036854775808 ≤ n ∧ n ≤ 9223372036854775807) (w : Int) (_h2 : -9223372036854775808 ≤ w ∧ w ≤ 9223372036854775807)
    (m : Int) (_h3 : -9223372036854775808 ≤ m ∧ m ≤ 9223372036854775807) (f : Int) (_h4 : -9223372036854775808 ≤ f ∧ f ≤ 9223372036854775807) (t : Int) (_h5 : -9223372036854775808 ≤ t ∧ t ≤ 9223372036854775807) :
    Does Try.prog 7 [cv (.slc 0 0 l.length none false), i64 n, i64 w, i64 m, i64 f, i64 t] [.rows true 1 (l.map rowZ)] fun v _ _ => v = bl true := by
  refine does Try.func7 rfl (by decide) ?_
  change Does Try.prog 22 _ _ _
  refine Does.alone 1 (picked ?_)
  refine brc_intro (fun _ => fin rfl) (fun h => ?_)
  have h := of_decide_eq_false h
  change Does Try.prog 20 _ _ _
  refine Does.alone 1 (pick _ _ (by decide) ?_)
  change Does Try.prog 20 _ _ _
  refine Does.alone 1 (pick _ _ (by decide) ?_)
  have g1 := pickZ_lt n (n := 17) (by decide)
  have g2 := pickZ_lt w (n := 30) (by decide)
  generalize pickZ n 17 = n' at *
  generalize pickZ w 30 = w' at *
  change Does Try.prog 23 _ _ _
  rw [wrap_i64 (1 + w') (by omega) (by omega)]
  refine Does.on 1 [0] _ _ (fairIs (ro := true) (all := l) (o := 0) (l := l) n' (1 + w') (fun i _ => by simp) (by omega) (by omega) fun b hb => ?_)
  refine brc_intro (fun _ => fin rfl) (fun h' => ?_)
  have hF : Fair l n' (1 + w') := hb.1 (by simpa using h')
  change Does Try.prog 20 _ _ _
  rw [wrap_i64 ((l.length : Int) + 1) (by omega) (by omega)]
  refine Does.alone 1 (pick _ _ (by omega) ?_)
  have g3 := pickZ_lt f (n := (l.length : Int) + 1) (by omega)
  generalize pickZ f ((l.length : Int) + 1) = f' at *
  change Does Try.prog 20 _ _ _
  rw [wrap_i64 ((l.length : Int) - f') (by omega) (by omega), wrap_i64 ((l.length : Int) - f' + 1) (by omega) (by omega)]
  refine Does.alone 1 (pick _ _ (by omega) ?_)
  have g4 := pickZ_lt t (n := (l.length : Int) - f' + 1) (by omega)
  generalize pickZ t ((l.length : Int) - f' + 1) = t' at *
  change Does Try.prog 20 _ _ _
  rw [wrap_i64 (f' + t') (by omega) (by omega)]
  refine Does.alone 1 (pick _ _ (by decide) ?_)
  have g5 := pickZ_lt m (n := 30) (by decide)
  generalize pickZ m 30 = m' at *
  change Does Try.prog 23 _ _ _
  rw [wrap_i64 (1 + w' + m') (by omega) (by omega)]
  refine Does.on 1 [0] _ _ (fairIs (ro := true) (all := l) (o := 0) (l := l) n' (1 + w' + m') (fun i _ => by simp) (by omega) (by omega) fun b hb => ?_)
  obtain rfl : b = true := hb.2 (hF.more (by omega))
  change Does Try.prog 20 _ _ _
  rw [wrap_i64 (n' + 1) (by omega) (by omega)]
  refine Does.alone 1 (pick _ _ (by omega) ?_)
  have g6 := pickZ_lt m (n := n' + 1) (by omega)
  generalize pickZ m (n' + 1) = n'' at *
  change Does Try.prog 23 _ _ _
  refine Does.on 1 [0] _ _ (fairIs (ro := true) (all := l) (o := 0) (l := l) n'' (1 + w') (fun i _ => by simp) (by omega) (by omega) fun b hb => ?_)
  obtain rfl : b = true := hb.2 (hF.fewer (by omega) (by omega))
  refine And.intro (by omega) (And.intro (by omega) (And.intro (by omega) ?_))
  change Does Try.prog 23 _ _ _
  refine Does.on 1 [0] _ _ (fairIsAt (ro := true) (all := l) ((l.drop f'.toNat).take ((f' + t').toNat - f'.toNat)) _ ?_ n' (1 + w') ?_ ?_ (by omega) fun b hb => ?_)
  · simp; omega
  · intro i hi
    have hi : i < (f' + t').toNat - f'.toNat := by simp at hi; omega
    rw [List.getElem?_take_of_lt hi, List.getElem?_drop, Nat.zero_add]
  · simp; omega
  · obtain rfl : b = true := hb.2 (hF.piece _ _ (by omega))
    exact fin rfl

theorem roundsL_get (n k j : Nat) : (roundsL n k)[j]? = if j < k then some ((j % n : Nat) : Int) else none := by
  unfold roundsL
  by_cases h : j < k
  · simp [h]
  · simp [h]

theorem rounds_fair {n t : Nat} (h1 : 1 ≤ n) (h16 : n ≤ 16) (ht : 2 ≤ t) {w : Int} (hw : 1 ≤ w) : Fair (roundsL n (n * t)) n w ↔ (n : Int) ≤ w := by
  have hnt : n * 2 ≤ n * t := Nat.mul_le_mul_left n ht
  constructor
  · intro h
    have := h.2.2.2 (n - 1) (by rw [roundsL_length]; omega) 0 (by omega)
    rw [gap_iff] at this
    rcases this with h2 | ⟨k, h2, h3, h4⟩
    · omega
    · rw [roundsL_get, if_pos (by omega)] at h4
      have h5 : k % n = 0 := by
        have h4 := Option.some.inj h4
        omega
      rw [Nat.mod_eq_of_lt (by omega)] at h5
      omega
  · intro h
    refine ⟨by omega, by omega, hw, fun i hi s hs => ?_⟩
    rw [roundsL_length] at hi
    rw [gap_iff]
    rcases Nat.lt_or_ge i s with h2 | h2
    · left; omega
    · right
      have h3 := Nat.mod_lt (i - s) (show n > 0 by omega)
      have h4 := Nat.mod_le (i - s) n
      refine ⟨i - (i - s) % n, by omega, by omega, ?_⟩
      rw [roundsL_get, if_pos (by omega)]
      have h5 := Nat.div_add_mod (i - s) n
      have h6 : i - (i - s) % n = s + n * ((i - s) / n) := by omega
      rw [h6, Nat.add_mul_mod_self_left, Nat.mod_eq_of_lt (by omega)]

theorem fairRounds (n : Int) (_h1 : -9223372036854775808 ≤ n ∧ n ≤ 9223372036854775807) (t : Int) (_h2 : -9223372036854775808 ≤ t ∧ t ≤ 9223372036854775807) (w : Int) (_h3 : -9223372036854775808 ≤ w ∧ w ≤ 9223372036854775807) :
    Does Try.prog 8 [i64 n, i64 t, i64 w] [] fun v _ _ => v = bl true := by
  refine does Try.func8 rfl (by decide) ?_
  change Does Try.prog 22 _ _ _
  refine Does.alone 0 (picked ?_)
  change Does Try.prog 20 _ _ _
  refine Does.alone 0 (pick _ _ (by decide) ?_)
  change Does Try.prog 20 _ _ _
  refine Does.alone 0 (pick _ _ (by decide) ?_)
  change Does Try.prog 20 _ _ _
  refine Does.alone 0 (pick _ _ (by decide) ?_)
  have g1 := pickZ_lt n (n := 16) (by decide)
  have g2 := pickZ_lt t (n := 20) (by decide)
  have g3 := pickZ_lt w (n := 30) (by decide)
  generalize pickZ n 16 = n' at *
  generalize pickZ t 20 = t' at *
  generalize pickZ w 30 = w' at *
  obtain ⟨N, hN⟩ := Int.eq_ofNat_of_zero_le (show 0 ≤ 1 + n' by omega)
  obtain ⟨T, hT⟩ := Int.eq_ofNat_of_zero_le (show 0 ≤ 2 + t' by omega)
  change Does Try.prog 24 _ _ _
  rw [wrap_i64 (1 + n') (by omega) (by omega), wrap_i64 (2 + t') (by omega) (by omega), wrap_i64 (1 + w') (by omega) (by omega), hN, hT]
  refine Does.alone 0 (rounds N T (by omega) (by omega) ?_)
  have hNT : N * T ≤ 16 * 21 := Nat.mul_le_mul (by omega) (by omega)
  have e : IntKind.i64.wrap ((N : Int) * T) = ((N * T : Nat) : Int) := by rw [Int.natCast_mul, wrap_i64 _ (by rw [← Int.natCast_mul]; omega) (by rw [← Int.natCast_mul]; omega)]
  refine brc_intro (fun _ => ?_) (fun h => absurd h (by rw [e]; simp))
  change Does Try.prog 23 _ _ _
  refine Does.on 1 [0] _ _ (fairIsAt (ro := false) (all := roundsL N (N * T)) (o := 0) (roundsL N (N * T)) _ (roundsL_length _ _) N (1 + w') (fun i _ => by simp) (by rw [roundsL_length]; omega) (by omega) fun b hb => ?_)
  refine fin ?_
  rw [rounds_fair (by omega) (by omega) (by omega) (by omega)] at hb
  rw [beq_iff_eq, Bool.eq_iff_iff, hb, decide_eq_true_iff]

end Go.Mac
