/- FairMore, FairRounds: true. -/
import Derived.Test.YtnhldphlkklfiaaGreatDoorQRounds
import Derived.Test.YtnhldphlkklfiaaGreatDoorGBase
open Go Go.Proofs Go.Mac
set_option maxRecDepth 100000
namespace Go.Mac

theorem Fair.more {l : List Int} {n w w' : Int} (h : Fair l n w) (hw : w ≤ w') : Fair l n w' :=
  ⟨h.1, h.2.1, by have := h.2.2.1; omega, fun i hi t ht => by have := h.2.2.2 i hi t ht; omega⟩

theorem Fair.fewer {l : List Int} {n m w : Int} (h : Fair l n w) (h0 : 0 ≤ m) (hm : m ≤ n) : Fair l m w :=
  ⟨h0, by have := h.2.1; omega, h.2.2.1, fun i hi t ht => h.2.2.2 i hi t (by omega)⟩

theorem Fair.piece {l : List Int} {n w : Int} (h : Fair l n w) (f k : Nat) (hk : f + k ≤ l.length) : Fair ((l.drop f).take k) n w :=
  ⟨h.1, h.2.1, h.2.2.1, fun i hi t ht => by
    have hi : i < k := by simp at hi; omega
    have h1 := h.2.2.2 (f + i) (by omega) t ht
    rw [gap_iff] at h1 ⊢
    have hg : ∀ j, j < k → ((l.drop f).take k)[j]? = l[f + j]? := fun j hj => by rw [List.getElem?_take_of_lt hj, List.getElem?_drop]
    rcases h1 with h1 | ⟨j, h2, h3, h4⟩
    · left; omega
    · rcases Nat.lt_or_ge j f with hj | hj
      · left; omega
      · right
        refine ⟨j - f, by omega, by omega, ?_⟩
        rw [hg _ (by omega), show f + (j - f) = j by omega]
        exact h4⟩

theorem fairIsAt {K : AV → List Nat → List PO → Prop} {ro : Bool} {all : List Int} {o : Nat} {c : Option Nat} {nn : Bool} (l : List Int) (k : Nat) (hk : l.length = k) (n w : Int) (hl : ∀ i, i < l.length → all[o + i]? = l[i]?) (hlen : l.length < 4611686018427387904) (hw : -4611686018427387904 ≤ w ∧ w ≤ 4611686018427387904)
    (hK : ∀ b : Bool, (b = true ↔ Fair l n w) → K (bl b) [] [.rows ro 1 (all.map rowZ)]) : Does Tryz.prog 49 [cv (.slc 0 o k c nn), i64 n, i64 w] [.rows ro 1 (all.map rowZ)] K := by
  subst hk
  exact fairIs n w hl hlen hw hK

theorem roundsL_get (n k j : Nat) : (roundsL n k)[j]? = if j < k then some ((j % n : Nat) : Int) else none := by
  unfold roundsL
  by_cases h : j < k
  · simp [h]
  · simp [h]

theorem rounds_fair {n t : Nat} (h1 : 1 ≤ n) (h16 : n ≤ 16) (ht : 2 ≤ t) {w : Int} (hw : 1 ≤ w) : Fair (roundsL n (n * t)) n w ↔ (n : Int) ≤ w := by
  have hnt : n * 2 ≤ n * t := Nat.mul_le_mul_left n ht
  constructor
  · intro h
    have := h.2.2.2 (n - 1) (by rw [roundsL_length]; omega) 0 (by omega)
    rw [gap_iff] at this
    rcases this with h2 | ⟨k, h2, h3, h4⟩
    · omega
    · rw [roundsL_get, if_pos (by omega)] at h4
      have h5 : k % n = 0 := by
        have h4 := Option.some.inj h4
        omega
      rw [Nat.mod_eq_of_lt (by omega)] at h5
      omega
  · intro h
    refine ⟨by omega, by omega, hw, fun i hi s hs => ?_⟩
    rw [roundsL_length] at hi
    rw [gap_iff]
    rcases Nat.lt_or_ge i s with h2 | h2
    · left; omega
    · right
      have h3 := Nat.mod_lt (i - s) (show n > 0 by omega)
      have h4 := Nat.mod_le (i - s) n
      refine ⟨i - (i - s) % n, by omega, by omega, ?_⟩
      rw [roundsL_get, if_pos (by omega)]
      have h5 := Nat.div_add_mod (i - s) n
      have h6 : i - (i - s) % n = s + n * ((i - s) / n) := by omega
      rw [h6, Nat.add_mul_mod_self_left, Nat.mod_eq_of_lt (by omega)]

end Go.Mac
