/- MemApart: true. -/
import Derived.Test.YtgmflgcifhaeiaaQMemLaw
open Go Go.Proofs Go.Mac
set_option maxRecDepth 100000
namespace Go.Mac

section
variable {K : AV → List Nat → List PO → Prop}

theorem cloneU {ro : Bool} {l : List Int} {c : Option Nat} (n : Nat) (hl : l.length = n) (hn : n ≤ 17592186044416) (h : K (cv (.slc 1 0 n none true)) [] [.rows ro 1 (l.map rowU), .rows false 1 (l.map rowU)]) :
    Does Try.prog 39 [cv (.slc 0 0 n c true)] [.rows ro 1 (l.map rowU)] K := by
  refine does Try.func39 rfl (by decide) ?_
  have e : (List.take n (List.drop 0 (l.map rowU))) = l.map rowU := by rw [List.drop_zero, List.take_of_length_le]; simp; omega
  have e2 : (l.map rowU).length = n := by simp; exact hl
  refine And.intro (by simp; omega) (Or.inl (And.intro rfl (And.intro rfl (And.intro ?_ (And.intro ?_ ?_)))))
  · rw [e, e2]
    show (0 + n) * 8 ≤ _
    omega
  · rw [e, e2]; omega
  · rw [e, e2, Nat.zero_add]
    exact h

theorem cloneU0 (h : K (cv .nilslc) [] []) : Does Try.prog 39 [cv .nilslc] [] K := by
  refine does Try.func39 rfl (by decide) ?_
  exact h

theorem memory0 (h : K (cv .nilptr) [] []) : Does Try.prog 32 [cv .nilslc] [] K := by
  refine does Try.func32 rfl (by decide) ?_
  exact h

theorem memApart (l : List Int) (_hl : ∀ x ∈ l, 0 ≤ x ∧ x < 18446744073709551616) (hsz : l.length ≤ 17592186044416) (a : Int) (_h1 : -9223372036854775808 ≤ a ∧ a ≤ 9223372036854775807) (x : Int) (_h3 : 0 ≤ x ∧ x < 18446744073709551616) :
    Does Try.prog 13 [cv (.slc 0 0 l.length none false), i64 a, u64 x] [.rows true 1 (l.map rowU)] fun v _ _ => v = bl true := by
  obtain ⟨n, hn⟩ : ∃ n, l.length = n := ⟨_, rfl⟩
  rw [hn]
  refine does Try.func13 rfl (by decide) ?_
  change Does Try.prog 31 _ _ _
  refine Does.alone 1 (kept ?_)
  change Does Try.prog 39 _ _ _
  refine Does.nil0 (fun h0 => ?_) ?_
  · subst h0
    refine Does.alone 1 (cloneU0 ?_)
    change Does Try.prog 32 _ _ _
    refine Does.alone 1 (memory0 ?_)
    exact fin rfl
  refine cloneU n hn (by omega) ?_
  change Does Try.prog 32 _ _ _
  refine Does.on 2 [1] _ _ (memory (ro := false) (l := l) n hn (fun h => ?_) fun h1 h200 => ?_)
  · refine brc_intro (fun _ => fin rfl) (fun h' => ?_)
    have h' : ¬ (n : Int) = 0 := by simpa using h'
    exact fin (decide_eq_true (by omega))
  have g1 := pickZ_lt a (n := n) (by omega)
  change Does Try.prog 20 _ _ _
  refine Does.alone 4 (pick _ _ (by omega) ?_)
  generalize pickZ a n = a' at *
  obtain ⟨i, rfl⟩ := Int.eq_ofNat_of_zero_le g1.1
  obtain ⟨z, hz⟩ : ∃ z, l[i]? = some z := ⟨_, List.getElem?_eq_getElem (by omega)⟩
  change Does Try.prog 38 _ _ _
  refine Does.on 4 [3, 2] _ _ (memWords (nn := false) (n := n) (ws := l) hn (by omega) ?_)
  refine brc_intro (fun h => absurd h (by simp)) (fun _ => ?_)
  refine at2 (by omega) (by omega) (wr1 (rowU z) (by simp [hz]) ?_)
  refine at2 (by omega) (by omega) (wr1 (rowU z) (by simp [hz]) ?_)
  change Does Try.prog 34 _ _ _
  refine Does.on 5 [3, 2] _ _ (memLoad (nn := false) (n := n) (ws := l) hn i (fun k v hk hv => ?_) fun h => absurd g1 h)
  obtain rfl : i = k := by omega
  rw [hz] at hv
  obtain rfl := Option.some.inj hv
  refine at2 (by omega) (by omega) (rd1 (rowU z) (.int .u64 z) (by simp [hz]) rfl ?_)
  exact fin (beq_self_eq_true z)

end
end Go.Mac
