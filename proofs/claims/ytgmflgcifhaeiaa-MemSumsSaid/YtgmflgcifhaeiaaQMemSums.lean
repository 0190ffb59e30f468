/- MemSums: true. -/
import Derived.Test.YtgmflgcifhaeiaaQMemLaw
open Go Go.Proofs Go.Mac
set_option maxRecDepth 100000
namespace Go.Mac

theorem sum_take_succ : ∀ (l : List Int) (j : Nat) (x : Int), l[j]? = some x → (l.take (j + 1)).sum = (l.take j).sum + x
  | [], j, x, h => by simp at h
  | y :: l, 0, x, h => by simp at h; subst h; simp
  | y :: l, j + 1, x, h => by
    have := sum_take_succ l j x (by simpa using h)
    simp only [List.take_succ_cons, List.sum_cons, this]
    omega

theorem sum_drop : ∀ (l : List Int) (j : Nat) (x : Int), l[j]? = some x → (l.drop j).sum = x + (l.drop (j + 1)).sum
  | [], j, x, h => by simp at h
  | y :: l, 0, x, h => by simp at h; subst h; simp
  | y :: l, j + 1, x, h => by simpa using sum_drop l j x (by simpa using h)

def upS (c : Int) (l : List Int) (j : Nat) : Int := (c + (l.take j).sum) % 18446744073709551616
def downS (c : Int) (l : List Int) (j : Nat) : Int := (c + (l.drop j).sum) % 18446744073709551616

theorem upS_succ {c x : Int} {l : List Int} {j : Nat} (h : l[j]? = some x) : IntKind.u64.wrap (upS c l j + x) = upS c l (j + 1) := by
  rw [wrap_u64_mod]
  unfold upS
  rw [sum_take_succ l j x h]
  omega

theorem downS_succ {c x : Int} {l : List Int} {j : Nat} (h : l[j]? = some x) : IntKind.u64.wrap (downS c l (j + 1) + x) = downS c l j := by
  rw [wrap_u64_mod]
  unfold downS
  rw [sum_drop l j x h]
  omega

theorem set_same {l : List Int} {i : Nat} {c : Int} (h : l[i]? = some c) : l.set i c = l := by
  refine List.ext_getElem? fun j => ?_
  by_cases hj : i = j
  · subst hj; rw [List.getElem?_set_self (List.getElem?_eq_some_iff.1 h).1, h]
  · rw [List.getElem?_set_ne hj]

theorem memSums (l : List Int) (hl : ∀ x ∈ l, 0 ≤ x ∧ x < 18446744073709551616) (a : Int) (_h1 : -9223372036854775808 ≤ a ∧ a ≤ 9223372036854775807) (s : List Int) (_hs : ∀ x ∈ s, 0 ≤ x ∧ x < 18446744073709551616) :
    Does Try.prog 12 [cv (.slc 0 0 l.length none false), i64 a, cv (.slc 1 0 s.length none false)] [.rows true 1 (l.map rowU), .rows true 1 (s.map rowU)] fun v _ _ => v = bl true := by
  obtain ⟨n, hn⟩ : ∃ n, l.length = n := ⟨_, rfl⟩
  obtain ⟨m, hm⟩ : ∃ m, s.length = m := ⟨_, rfl⟩
  rw [hn, hm]
  refine does Try.func12 rfl (by decide) ?_
  change Does Try.prog 31 _ _ _
  refine Does.alone 2 (kept ?_)
  refine brc_intro (fun _ => fin rfl) (fun h30 => ?_)
  have h30 := of_decide_eq_false h30
  have last : n = 0 ∨ 200 < n → ((bl true : AV) = bl true) := fun _ => rfl
  change Does Try.prog 32 _ _ _
  refine Does.on 2 [0] _ _ (memory (ro := true) (l := l) n hn (fun h => ?_) fun h1 h200 => ?_)
  · change Does Try.prog 32 _ _ _
    refine Does.on 2 [0] _ _ (memory (ro := true) (l := l) n hn (fun h => ?_) fun h1 h200 => absurd h (by omega))
    refine brc_intro (fun _ => fin rfl) (fun h' => ?_)
    have h' : ¬ (n : Int) = 0 := by simpa using h'
    exact fin (decide_eq_true (by omega))
  change Does Try.prog 32 _ _ _
  refine Does.on 4 [0] _ _ (memory (ro := true) (l := l) n hn (fun h => absurd h (by omega)) fun _ _ => ?_)
  have g1 := pickZ_lt a (n := n) (by omega)
  change Does Try.prog 20 _ _ _
  refine Does.alone 6 (pick _ _ (by omega) ?_)
  generalize pickZ a n = a' at *
  obtain ⟨i, rfl⟩ := Int.eq_ofNat_of_zero_le g1.1
  obtain ⟨c, hc⟩ : ∃ z, l[i]? = some z := ⟨_, List.getElem?_eq_getElem (by omega)⟩
  have hcr := hl c (List.mem_of_getElem? hc)
  have hc0 : upS c s 0 = c := by unfold upS; simp; omega
  have hcm : downS c s m = c := by unfold downS; rw [List.drop_of_length_le (by omega)]; simp; omega
  refine at2 (by omega) (by omega) (rd1 (rowU c) (.int .u64 c) (by simp [hc]) rfl ?_)
  refine SS.loop (fun j : Nat => j ≤ m)
    (fun j => [(0, cv (.slc 0 0 n none false)), (1, i64 i), (2, cv (.slc 1 0 m none false)), (7, cv (.ptr 3 0)), (8, cv (.ptr 5 0)), (9, u64 (upS c s j)), (48, cv (.slc 1 0 m none false)), (49, i64 m), (50, i64 j)])
    (fun j => [.rows true 1 (l.map rowU), .rows true 1 (s.map rowU), .rows false 1 ((l.set i (upS c s j)).map rowU), .one [.slc 2 0 n none false], .rows false 1 (l.map rowU), .one [.slc 4 0 n none false]])
    (fun j => m - j) []
    (At.mk' [0, 1, 2, 7, 8, 9, 48, 49, 50] 0 (by simp) ⟨by rw [hc0]; rfl, rfl⟩ (by rw [hc0, set_same hc]; rfl) rfl (by simp) (by simp) (by simp)) ?_
  · intro j hj
    refine S_r ?_
    refine brc_intro (fun h => ?_) (fun h => ?_)
    · have hlt : j < m := by have := of_decide_eq_true h; omega
      obtain ⟨x, hx⟩ : ∃ z, s[j]? = some z := ⟨_, List.getElem?_eq_getElem (by omega)⟩
      refine SS.inlR ?_
      refine at2 (by omega) (by omega) (rd1 (rowU x) (.int .u64 x) (by simp [hx]) rfl ?_)
      change Does Try.prog 36 _ _ _
      refine Does.on 6 [3, 2] _ _ (memFetch (nn := false) (n := n) (ws := l.set i (upS c s j)) (by simpa using hn) i x (fun k y hk hy => ?_) fun h => absurd g1 h)
      obtain rfl : i = k := by omega
      rw [List.getElem?_set_self (by omega)] at hy
      obtain rfl := Option.some.inj hy
      refine brc_intro (fun h => absurd h (by simp)) (fun _ => ?_)
      refine At.mk' [0, 1, 2, 7, 8, 9, 48, 49, 50] (j + 1) ⟨hlt, by omega⟩ ⟨?_, rfl⟩ ?_ rfl (by simp) (by simp) (by simp)
      · rw [upS_succ hx, wrap_i64 _ (by omega) (by omega)]
        rfl
      · rw [upS_succ hx, List.set_set]
        rfl
    · have h := of_decide_eq_false h
      obtain rfl : m = j := by omega
      refine SS.loop (fun j : Nat => j ≤ m)
        (fun j => [(0, cv (.slc 0 0 n none false)), (1, i64 i), (2, cv (.slc 1 0 m none false)), (7, cv (.ptr 3 0)), (8, cv (.ptr 5 0)), (9, u64 (upS c s m)), (14, i64 ((j : Int) - 1))])
        (fun j => [.rows true 1 (l.map rowU), .rows true 1 (s.map rowU), .rows false 1 ((l.set i (upS c s m)).map rowU), .one [.slc 2 0 n none false], .rows false 1 ((l.set i (downS c s j)).map rowU), .one [.slc 4 0 n none false]])
        (fun j => j) []
        (At.mk' [0, 1, 2, 7, 8, 9, 14] m (by simp) ⟨by rw [wrap_i64 _ (by omega) (by omega)], rfl⟩ (by rw [hcm, set_same hc]; rfl) rfl (by simp) (by simp) (by simp)) ?_
      clear hj
      intro j hj
      refine S_r ?_
      refine brc_intro (fun h => ?_) (fun h => ?_)
      · have h := of_decide_eq_true h
        obtain ⟨j, rfl⟩ : ∃ k, j = k + 1 := ⟨j - 1, by omega⟩
        have e : (((j + 1 : Nat) : Int) - 1) = (j : Int) := by omega
        obtain ⟨x, hx⟩ : ∃ z, s[j]? = some z := ⟨_, List.getElem?_eq_getElem (by omega)⟩
        refine SS.inlR ?_
        refine at2 (by omega) (by omega) (rd1 (rowU x) (.int .u64 x) (by simp [hx]) rfl ?_)
        change Does Try.prog 36 _ _ _
        refine Does.on 6 [5, 4] _ _ (memFetch (nn := false) (n := n) (ws := l.set i (downS c s (j + 1))) (by simpa using hn) i x (fun k y hk hy => ?_) fun h => absurd g1 h)
        obtain rfl : i = k := by omega
        rw [List.getElem?_set_self (by omega)] at hy
        obtain rfl := Option.some.inj hy
        refine At.mk' [0, 1, 2, 7, 8, 9, 14] j ⟨by omega, by omega⟩ ⟨?_, rfl⟩ ?_ rfl (by simp) (by simp) (by simp)
        · rw [wrap_i64 _ (by omega) (by omega), e]
        · rw [downS_succ hx, List.set_set]
          rfl
      · have h := of_decide_eq_false h
        obtain rfl : j = 0 := by omega
        have eS : downS c s 0 = upS c s m := by unfold downS upS; rw [List.drop_zero, List.take_of_length_le (by omega)]
        change Does Try.prog 38 _ _ _
        rw [eS]
        refine Does.on 6 [3, 2] _ _ (memWords (nn := false) (n := n) (ws := l.set i (upS c s m)) (by simpa using hn) (by omega) ?_)
        change Does Try.prog 38 _ _ _
        refine Does.on 7 [5, 4] _ _ (memWords (nn := false) (n := n) (ws := l.set i (upS c s m)) (by simpa using hn) (by omega) ?_)
        change Does Try.prog 37 _ _ _
        have hq : ∀ {K}, Does Try.prog 37 [cv (.slc 0 0 (l.set i (upS c s m)).length none false), cv (.slc 1 0 (l.set i (upS c s m)).length none false)] _ K → Does Try.prog 37 [cv (.slc 0 0 n none false), cv (.slc 1 0 n none false)] [.rows false 1 ((l.set i (upS c s m)).map rowU), .rows false 1 ((l.set i (upS c s m)).map rowU)] K := fun h => by
          have e : (l.set i (upS c s m)).length = n := by simpa using hn
          rw [e] at h
          exact h
        refine Does.on 8 [6, 7] _ _ (hq (equalU (xs := l.set i (upS c s m)) (ys := l.set i (upS c s m)) (by simp; omega) (fun _ => ?_) fun h => absurd rfl h))
        change Does Try.prog 38 _ _ _
        refine Does.on 8 [3, 2] _ _ (memWords (nn := false) (n := n) (ws := l.set i (upS c s m)) (by simpa using hn) (by omega) ?_)
        refine at2 (by omega) (by omega) (rd1 (rowU (upS c s m)) (.int .u64 (upS c s m)) (by rw [List.getElem?_map, show 0 + Int.toNat (i : Int) = i by simp, List.getElem?_set_self (by omega)]; rfl) rfl ?_)
        exact fin (beq_self_eq_true _)

end Go.Mac
