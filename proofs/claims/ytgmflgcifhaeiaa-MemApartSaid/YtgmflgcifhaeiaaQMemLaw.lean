/- MemLast, MemSwaps: true. -/
import Derived.Test.YtgmflgcifhaeiaaQMem
open Go Go.Proofs Go.Mac
set_option maxRecDepth 100000
namespace Go.Mac

section
variable {K : AV → List Nat → List PO → Prop}

theorem kept (hK : K (bl true) [] []) : Does Try.prog 31 [] [] K := by
  refine does Try.func31 rfl (by decide) ?_
  change Does Try.prog 47 _ _ _
  refine Does.alone 0 (memNew 3 (by decide) ?_)
  change Does Try.prog 33 _ _ _
  refine Does.on 2 [1, 0] _ _ (memStore (nn := true) (n := 3) (ws := [0, 0, 0]) rfl 1 7 (fun k hk _ => ?_) fun h => absurd h (by decide))
  obtain rfl : k = 1 := by omega
  change Does Try.prog 36 _ _ _
  refine Does.on 2 [1, 0] _ _ (memFetch (nn := true) (n := 3) (ws := [0, 7, 0]) rfl 1 5 (fun k x hk hx => ?_) fun h => absurd h (by decide))
  obtain rfl : k = 1 := by omega
  obtain rfl : (7 : Int) = x := Option.some.inj hx
  change Does Try.prog 35 _ _ _
  refine Does.on 2 [1, 0] _ _ (memSwap (nn := true) (n := 3) (ws := [0, 12, 0]) rfl 1 12 9 (fun k x hk hx _ => ?_) (fun k x hk hx hne => ?_) fun h => absurd h (by decide))
  · obtain rfl : k = 1 := by omega
    change Does Try.prog 38 _ _ _
    refine Does.on 2 [1, 0] _ _ (memWords (nn := true) (n := 3) (ws := [0, 9, 0]) rfl (by decide) ?_)
    change Does Try.prog 37 _ _ _
    refine Does.on 4 [2, 3] _ _ (equalU (xs := [0, 9, 0]) (ys := [0, 9, 0]) (by decide) (fun _ => ?_) fun h => absurd rfl h)
    exact hK
  · obtain rfl : k = 1 := by omega
    exact absurd (Option.some.inj hx).symm hne

theorem memory {ro nn : Bool} {l : List Int} {c : Option Nat} (n : Nat) (hl : l.length = n) (h0 : n = 0 ∨ 200 < n → K (cv .nilptr) [] [.rows ro 1 (l.map rowU)])
    (h1 : 1 ≤ n → n ≤ 200 → K (cv (.ptr 2 0)) [] [.rows ro 1 (l.map rowU), .rows false 1 (l.map rowU), .one [.slc 1 0 n none false]]) : Does Try.prog 32 [cv (.slc 0 0 n c nn)] [.rows ro 1 (l.map rowU)] K := by
  refine does Try.func32 rfl (by decide) ?_
  refine brc_intro (fun h => ?_) (fun h => ?_)
  · exact h0 (by have : (n : Int) = 0 := by simpa using h
                 omega)
  refine brc_intro (fun h' => ?_) (fun h' => ?_)
  · exact h0 (by have := of_decide_eq_true h'; omega)
  have h : ¬ (n : Int) = 0 := by simpa using h
  have h' := of_decide_eq_false h'
  change Does Try.prog 48 _ _ _
  refine memOf n hl (by omega) ?_
  exact h1 (by omega) (by omega)

theorem memLast (l : List Int) (_hl : ∀ x ∈ l, 0 ≤ x ∧ x < 18446744073709551616) (a : Int) (_h1 : -9223372036854775808 ≤ a ∧ a ≤ 9223372036854775807) (b : Int) (_h2 : -9223372036854775808 ≤ b ∧ b ≤ 9223372036854775807)
    (x : Int) (_h3 : 0 ≤ x ∧ x < 18446744073709551616) (y : Int) (_h4 : 0 ≤ y ∧ y < 18446744073709551616) :
    Does Try.prog 10 [cv (.slc 0 0 l.length none false), i64 a, i64 b, u64 x, u64 y] [.rows true 1 (l.map rowU)] fun v _ _ => v = bl true := by
  obtain ⟨n, hn⟩ : ∃ n, l.length = n := ⟨_, rfl⟩
  rw [hn]
  refine does Try.func10 rfl (by decide) ?_
  change Does Try.prog 31 _ _ _
  refine Does.alone 1 (kept ?_)
  change Does Try.prog 32 _ _ _
  refine memory n hn (fun h => ?_) fun h1 h200 => ?_
  · refine brc_intro (fun _ => fin rfl) (fun h' => ?_)
    have h' : ¬ (n : Int) = 0 := by simpa using h'
    exact fin (decide_eq_true (by omega))
  have g1 := pickZ_lt a (n := n) (by omega)
  have g2 := pickZ_lt b (n := n) (by omega)
  change Does Try.prog 20 _ _ _
  refine Does.alone 3 (pick _ _ (by omega) ?_)
  change Does Try.prog 20 _ _ _
  refine Does.alone 3 (pick _ _ (by omega) ?_)
  generalize pickZ a n = a' at *
  generalize pickZ b n = b' at *
  obtain ⟨i, rfl⟩ := Int.eq_ofNat_of_zero_le g1.1
  obtain ⟨j, rfl⟩ := Int.eq_ofNat_of_zero_le g2.1
  change Does Try.prog 33 _ _ _
  refine Does.on 3 [2, 1] _ _ (memStore (nn := false) (n := n) (ws := l) hn i x (fun k hk _ => ?_) fun h => absurd g1 h)
  obtain rfl : i = k := by omega
  change Does Try.prog 33 _ _ _
  refine Does.on 3 [2, 1] _ _ (memStore (nn := false) (n := n) (ws := l.set i x) (by simpa using hn) i y (fun k hk _ => ?_) fun h => absurd g1 h)
  obtain rfl : i = k := by omega
  change Does Try.prog 34 _ _ _
  refine Does.on 3 [2, 1] _ _ (memLoad (nn := false) (n := n) (ws := (l.set i x).set i y) (by simpa using hn) i (fun k z hk hz => ?_) fun h => absurd g1 h)
  obtain rfl : i = k := by omega
  change Does Try.prog 34 _ _ _
  refine Does.on 3 [2, 1] _ _ (memLoad (nn := false) (n := n) (ws := (l.set i x).set i y) (by simpa using hn) j (fun k w hk hw => ?_) fun h => absurd g2 h)
  obtain rfl : j = k := by omega
  have hz : z = y := by
    rw [List.getElem?_set_self (by simp; omega)] at hz
    exact (Option.some.inj hz).symm
  refine brc_intro (fun _ => ?_) (fun h => absurd h (by simp [hz]))
  refine brc_intro (fun _ => fin rfl) (fun h => ?_)
  have hij : i ≠ j := by
    intro e
    simp [e] at h
  rw [List.set_set, List.getElem?_set_ne hij] at hw
  refine at2 (by omega) (by omega) (rd1 (rowU w) (.int .u64 w) (by simp [hw]) rfl ?_)
  exact fin (beq_self_eq_true w)

theorem memSwaps (l : List Int) (_hl : ∀ x ∈ l, 0 ≤ x ∧ x < 18446744073709551616) (a : Int) (_h1 : -9223372036854775808 ≤ a ∧ a ≤ 9223372036854775807)
    (x : Int) (_h3 : 0 ≤ x ∧ x < 18446744073709551616) (y : Int) (_h4 : 0 ≤ y ∧ y < 18446744073709551616) :
    Does Try.prog 11 [cv (.slc 0 0 l.length none false), i64 a, u64 x, u64 y] [.rows true 1 (l.map rowU)] fun v _ _ => v = bl true := by
  obtain ⟨n, hn⟩ : ∃ n, l.length = n := ⟨_, rfl⟩
  rw [hn]
  refine does Try.func11 rfl (by decide) ?_
  change Does Try.prog 31 _ _ _
  refine Does.alone 1 (kept ?_)
  change Does Try.prog 32 _ _ _
  refine memory n hn (fun h => ?_) fun h1 h200 => ?_
  · refine brc_intro (fun _ => fin rfl) (fun h' => ?_)
    have h' : ¬ (n : Int) = 0 := by simpa using h'
    exact fin (decide_eq_true (by omega))
  have g1 := pickZ_lt a (n := n) (by omega)
  change Does Try.prog 20 _ _ _
  refine Does.alone 3 (pick _ _ (by omega) ?_)
  generalize pickZ a n = a' at *
  obtain ⟨i, rfl⟩ := Int.eq_ofNat_of_zero_le g1.1
  obtain ⟨z, hz⟩ : ∃ z, l[i]? = some z := ⟨_, List.getElem?_eq_getElem (by omega)⟩
  refine at2 (by omega) (by omega) (rd1 (rowU z) (.int .u64 z) (by simp [hz]) rfl ?_)
  change Does Try.prog 35 _ _ _
  refine Does.on 3 [2, 1] _ _ (memSwap (nn := false) (n := n) (ws := l) hn i z x (fun k u hk hu _ => ?_) (fun k u hk hu hne => ?_) fun h => absurd g1 h)
  rotate_left
  · obtain rfl : i = k := by omega
    rw [hz] at hu
    exact absurd (Option.some.inj hu).symm hne
  obtain rfl : i = k := by omega
  change Does Try.prog 35 _ _ _
  refine Does.on 3 [2, 1] _ _ (memSwap (nn := false) (n := n) (ws := l.set i x) (by simpa using hn) i z y (fun k u hk hu hq => ?_) (fun k u hk hu hne => ?_) fun h => absurd g1 h)
  all_goals
    obtain rfl : i = k := by omega
    rw [List.getElem?_set_self (by omega)] at hu
    obtain rfl : x = u := Option.some.inj hu
  · change Does Try.prog 34 _ _ _
    refine Does.on 3 [2, 1] _ _ (memLoad (nn := false) (n := n) (ws := (l.set i x).set i y) (by simpa using hn) i (fun k v hk hv => ?_) fun h => absurd g1 h)
    obtain rfl : i = k := by omega
    rw [List.getElem?_set_self (by simp; omega)] at hv
    obtain rfl : y = v := Option.some.inj hv
    refine brc_intro (fun _ => ?_) (fun h => absurd h (by simp [hq]))
    exact fin (beq_self_eq_true y)
  · change Does Try.prog 34 _ _ _
    refine Does.on 3 [2, 1] _ _ (memLoad (nn := false) (n := n) (ws := l.set i x) (by simpa using hn) i (fun k v hk hv => ?_) fun h => absurd g1 h)
    obtain rfl : i = k := by omega
    rw [List.getElem?_set_self (by omega)] at hv
    obtain rfl : x = v := Option.some.inj hv
    refine brc_intro (fun h => absurd h (by simp [hne])) (fun _ => ?_)
    exact fin (beq_self_eq_true x)

end
end Go.Mac
