/- Nobody goes ahead of any one. -/
import Derived.Test.YtnhldphlkklfiaaDoorQDanceL
open Go Go.Proofs Go.Mac
set_option maxRecDepth 100000
namespace Go.Mac

theorem run_at : ∀ (l : List EvZ) (i : Nat) (c g : List Int), runZ l i c g = none → ∀ (j : Nat) (e : EvZ), l[j]? = some e →
    (oneZ e ((l.take j).foldl (fun p e => (oneZ e p.1 p.2).2) (c, g)).1 ((l.take j).foldl (fun p e => (oneZ e p.1 p.2).2) (c, g)).2).1 = 0
  | [], _, _, _, _, j, e, h => by cases h
  | x :: l, i, c, g, h, j, e, hj => by
    rw [runZ] at h
    split at h
    · rename_i h1
      cases j with
      | zero =>
        obtain rfl := Option.some.inj hj
        exact h1
      | succ j =>
        rw [List.take_succ_cons, List.foldl_cons]
        exact run_at l (i + 1) _ _ h j e hj
    · cases h

theorem check_at {n : Nat} {l : List EvZ} (h : checkZ n l = none) {j : Nat} {e : EvZ} (hj : l[j]? = some e) : (oneZ e (evS n (l.take j)).1 (evS n (l.take j)).2).1 = 0 := run_at l 0 _ _ h j e hj

theorem evS_len : ∀ (l : List EvZ) (p : List Int × List Int), (l.foldl (fun p e => (oneZ e p.1 p.2).2) p).1.length = p.1.length
  | [], _ => rfl
  | e :: l, p => by rw [List.foldl_cons, evS_len l]; exact (oneZ_len e p.1 p.2).1

/-- What one event makes of who came, and how far who goes. -/
theorem one_lag {e : EvZ} {c g : List Int} (h : (oneZ e c g).1 = 0) {w : Nat} (hw : w < c.length) :
    (oneZ e c g).2.1.getD w 0 = (if e.a = 1 ∧ e.t = w then e.v else c.getD w 0) ∧ (e.a = 2 → e.v ≤ c.getD w 0) := by
  unfold oneZ at h ⊢
  split at h
  · cases h
  · rename_i h1
    rw [if_neg h1]
    split at h
    · cases h
    · rename_i h2
      rw [if_neg h2]
      split at h
      · rename_i h3
        rw [if_pos h3]
        split at h
        · cases h
        · rename_i h4
          rw [if_neg h4]
          refine ⟨?_, fun h5 => absurd (h3.symm.trans h5) (by decide)⟩
          have hv : e.v = c.getD e.t.toNat 0 + 1 := Classical.byContradiction fun hne => h4 (.inr hne)
          dsimp only
          rw [List.getD_eq_getElem?_getD, List.getElem?_set]
          by_cases ht : e.t = w
          · rw [if_pos (by omega), if_pos (by omega), if_pos ⟨h3, ht⟩, hv]
            rfl
          · rw [if_neg (by omega), if_neg (fun h => ht h.2), ← List.getD_eq_getElem?_getD]
      · rename_i h3
        rw [if_neg h3]
        split at h
        · cases h
        · rename_i h4
          rw [if_neg h4]
          split at h
          · cases h
          · rename_i h5
            rw [if_neg h5]
            refine ⟨by rw [if_neg (fun h => h3 h.1)], fun _ => ?_⟩
            have hx : c.getD w 0 ∈ c := by
              rw [List.getD_eq_getElem?_getD, List.getElem?_eq_getElem hw]
              exact List.getElem_mem hw
            have := mt List.any_eq_true.2 h5
            exact Classical.byContradiction fun hne => this ⟨_, hx, decide_eq_true (by omega)⟩

theorem danceLag (k : Int) (_hk : -9223372036854775808 ≤ k ∧ k ≤ 9223372036854775807) (n : Int) (_hn : -9223372036854775808 ≤ n ∧ n ≤ 9223372036854775807) (R : Int) (_hR : -9223372036854775808 ≤ R ∧ R ≤ 9223372036854775807) (who : Int) (_hw : -9223372036854775808 ≤ who ∧ who ≤ 9223372036854775807) (ms : List MoveZ) :
    Does Tryd.prog 3 [i64 k, i64 n, i64 R, i64 who, cv (.slc 0 0 ms.length none false)] [.rows true 2 (ms.map rowMove), rtH] fun v _ _ => v = bl true := by
  refine does Tryd.func3 rfl (by decide) ?_
  change Does Tryd.prog 13 _ _ _
  refine Does.on 2 [1] _ _ (danced ?_)
  refine brc_intro (fun _ => rfl) (fun h => ?_)
  have hms : ms.length ≤ 900 := by
    have := of_decide_eq_false h
    omega
  change Does Tryd.prog 14 _ _ _
  refine Does.alone 2 (ball k n R ?_)
  obtain ⟨k, hk, hk6⟩ := pick6 k
  obtain ⟨n, hn, hn16⟩ := pick16b n
  obtain ⟨R, hR, hR6⟩ := pick7 R
  rw [hk, hn, hR]
  change Does Tryd.prog 15 _ _ _
  refine Does.alone 2 (pick who n (by omega) ?_)
  have hpw := pickZ_lt who (n := (n : Int)) (by omega)
  obtain ⟨w, hwe⟩ : ∃ w : Nat, pickZ who (n : Int) = w := ⟨(pickZ who (n : Int)).toNat, by omega⟩
  rw [hwe] at hpw ⊢
  obtain ⟨z, hz⟩ : ∃ z, movesZ (danceM k n R) (ms.map (pickM n)) = z := ⟨_, rfl⟩
  obtain ⟨A, V, hD⟩ := dance_moves hk6 hn16 (show R ≤ 20 by omega) (ms.map (pickM n))
  rw [hz] at hD
  obtain ⟨o1, _⟩ := hD.order (kind_bar R hk6 hn16) hn16.1
  change Does Tryd.prog 16 _ _ _
  refine Does.on 2 [0] _ _ (floor (k := k) (n := n) (R := R) (ms := ms) (z := z) (kindAll hk6 hn16 (by omega)) rfl (by omega) hz fun v hv hw => ?_)
  have hel := hw.el
  have hkz := hw.k
  clear hD
  change Does Tryd.prog 17 _ _ _
  refine Does.on 11 [2, 3, 4, 5, 6, 7, 8, 9, 10] _ _ (coreEvents (m := z) (v := v) (by omega) ?_)
  obtain ⟨C, hC⟩ : ∃ C : Nat → Int, ∀ i, C i = (evS n (z.el.take i)).1.getD w 0 := ⟨_, fun _ => rfl⟩
  have hC0 : C 0 = 0 := by
    rw [hC]
    exact noughts_getD n w
  have hCs : ∀ (i : Nat) (e : EvZ), z.el[i]? = some e → C (i + 1) = (if e.a = 1 ∧ e.t = w then e.v else C i) ∧ (e.a = 2 → e.v ≤ C i) := fun i e h => by
    have h1 := check_at o1 h
    have h2 := one_lag h1 (w := w) (by rw [evS, evS_len]; show w < (List.replicate n (0 : Int)).length; rw [List.length_replicate]; omega)
    rw [hC, hC, take_snoc h, evS_snoc]
    exact h2
  clear hC
  refine SS.loop (fun i : Nat => i ≤ z.el.length) (fun i => [(3, i64 w), (12, i64 (C i)), (39, cv (.slc 11 0 z.el.length none false)), (40, i64 z.el.length), (41, i64 i)])
    (fun _ => [.rows true 2 (ms.map rowMove), rtH] ++ machS 2 z v ++ [.rows false 4 (z.el.map rowEv)]) (fun i => z.el.length - i) []
    (At.mk' [3, 12, 39, 40, 41] 0 (Nat.zero_le _) ⟨?_, rfl⟩ rfl rfl (by simp) (by simp) (by simp)) ?_
  · rw [hC0]
    rfl
  intro i hi
  change i ≤ z.el.length at hi
  refine S_r ?_
  refine brc_intro (fun hlt => ?_) (fun hlt => ?_)
  · have hlt : i < z.el.length := by
      have := of_decide_eq_true hlt
      have : (i : Int) < (z.el.length : Int) := this
      omega
    obtain ⟨x, hx⟩ : ∃ x, z.el[i]? = some x := ⟨_, List.getElem?_eq_getElem (by omega)⟩
    obtain ⟨s1, s2⟩ := hCs i x hx
    have hup : IntKind.i64.wrap ((i : Int) + 1) = ((i + 1 : Nat) : Int) := wrap_i64 (i + 1) (by omega) (by omega)
    refine SS.inlR ?_
    refine at2 (by omega) (by omega) (rdA (rowEv x) (gev hx) ?_)
    refine brc_intro (fun h1 => ?_) (fun h1 => ?_)
    · have h1 : x.a = 1 := by simpa using h1
      refine brc_intro (fun h2 => ?_) (fun h2 => ?_)
      · have h2 : x.t = w := by simpa using h2
        rw [if_pos ⟨h1, h2⟩] at s1
        refine brc_intro (fun h3 => absurd (h1.symm.trans (show x.a = 2 by simpa using h3)) (by decide)) (fun _ => ?_)
        refine At.mk' [3, 12, 39, 40, 41] (i + 1) ⟨hlt, by omega⟩ ⟨?_, rfl⟩ rfl rfl (by simp) (by simp) (by simp)
        rw [hup, s1]
      · have h2 : x.t ≠ w := by simpa using h2
        rw [if_neg (fun h => h2 h.2)] at s1
        refine brc_intro (fun h3 => absurd (h1.symm.trans (show x.a = 2 by simpa using h3)) (by decide)) (fun _ => ?_)
        refine At.mk' [3, 12, 39, 40, 41] (i + 1) ⟨hlt, by omega⟩ ⟨?_, rfl⟩ rfl rfl (by simp) (by simp) (by simp)
        rw [hup, s1]
    · have h1 : x.a ≠ 1 := by simpa using h1
      rw [if_neg (fun h => h1 h.1)] at s1
      refine brc_intro (fun h3 => ?_) (fun h3 => ?_)
      · have h3 : x.a = 2 := by simpa using h3
        have := s2 h3
        refine brc_intro (fun h4 => absurd this (by have : x.v > C i := of_decide_eq_true h4; omega)) (fun _ => ?_)
        refine At.mk' [3, 12, 39, 40, 41] (i + 1) ⟨hlt, by omega⟩ ⟨?_, rfl⟩ rfl rfl (by simp) (by simp) (by simp)
        rw [hup, s1]
      · refine At.mk' [3, 12, 39, 40, 41] (i + 1) ⟨hlt, by omega⟩ ⟨?_, rfl⟩ rfl rfl (by simp) (by simp) (by simp)
        rw [hup, s1]
  · rfl

end Go.Mac
