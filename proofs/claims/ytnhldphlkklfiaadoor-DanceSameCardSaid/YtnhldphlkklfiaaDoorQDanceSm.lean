/- All kinds do one thing: the walk. -/
import Derived.Test.YtnhldphlkklfiaaDoorQSays
import Derived.Test.YtnhldphlkklfiaaDoorQDanceL
import Derived.Test.YtnhldphlkklfiaaDoorQDanceAl
open Go Go.Proofs Go.Mac
set_option maxRecDepth 100000
namespace Go.Mac

theorem saysT_take {t : Nat} {l : List EvZ} {i : Nat} {x : EvZ} (h : l[i]? = some x) : saysT t (l.take (i + 1)) = saysT t (l.take i) ++ (if x.t = (t : Int) then [x.a, x.v] else []) := by
  rw [List.take_add_one, h, saysT, List.flatMap_append]
  simp [saysT]

theorem saysT_len (t : Nat) : ∀ l : List EvZ, (saysT t l).length ≤ 2 * l.length
  | [] => Nat.le_refl _
  | x :: l => by
    have := saysT_len t l
    have e : saysT t (x :: l) = (if x.t = (t : Int) then [x.a, x.v] else []) ++ saysT t l := rfl
    rw [e, List.length_append, List.length_cons]
    split
    · show 2 + _ ≤ _
      omega
    · show 0 + _ ≤ _
      omega

/-- In the end each said the same. -/
theorem dance_says {k n R : Nat} (hk : 1 ≤ k ∧ k ≤ 6) (hn : 1 ≤ n ∧ n ≤ 16) (hR : R ≤ 6) (l : List MoveZ) (hl : l.length ≤ 900) {t : Nat} (ht : t < n) : saysT t (finish (movesZ (danceM k n R) l)).el = saysR R := by
  obtain ⟨A, V, h, he⟩ := dance_finish hk hn hR l hl
  exact h.says (kind_bar R hk hn) he ht

theorem danceSame (k : Int) (_hk : -9223372036854775808 ≤ k ∧ k ≤ 9223372036854775807) (o : Int) (_ho : -9223372036854775808 ≤ o ∧ o ≤ 9223372036854775807) (n : Int) (_hn : -9223372036854775808 ≤ n ∧ n ≤ 9223372036854775807) (R : Int) (_hR : -9223372036854775808 ≤ R ∧ R ≤ 9223372036854775807) (ms : List MoveZ) :
    Does Tryd.prog 11 [i64 k, i64 o, i64 n, i64 R, cv (.slc 0 0 ms.length none false)] [.rows true 2 (ms.map rowMove), rtH] fun v _ _ => v = bl true := by
  refine does Tryd.func11 rfl (by decide) ?_
  change Does Tryd.prog 13 _ _ _
  refine Does.on 2 [1] _ _ (danced ?_)
  refine brc_intro (fun _ => rfl) (fun h => ?_)
  have hms : ms.length ≤ 600 := by
    have := of_decide_eq_false h
    omega
  change Does Tryd.prog 14 _ _ _
  refine Does.alone 2 (ball k n R ?_)
  obtain ⟨k, hk, hk6⟩ := pick6 k
  obtain ⟨k2, hk2, hk26⟩ := pick6 o
  obtain ⟨n, hn, hn16⟩ := pick16b n
  obtain ⟨R, hR, hR6⟩ := pick7 R
  rw [hk, hn, hR]
  obtain ⟨z, hz⟩ : ∃ z, movesZ (danceM k n R) (ms.map (pickM n)) = z := ⟨_, rfl⟩
  obtain ⟨y, hy⟩ : ∃ y, movesZ (danceM k2 n R) (ms.map (pickM n)) = y := ⟨_, rfl⟩
  have s1 := fun t ht => dance_says hk6 hn16 hR6 (ms.map (pickM n)) (by rw [List.length_map]; omega) (t := t) ht
  have s2 := fun t ht => dance_says hk26 hn16 hR6 (ms.map (pickM n)) (by rw [List.length_map]; omega) (t := t) ht
  rw [hz] at s1
  rw [hy] at s2
  change Does Tryd.prog 16 _ _ _
  refine Does.on 2 [0] _ _ (floor (k := k) (n := n) (R := R) (ms := ms) (z := z) (kindAll hk6 hn16 (by omega)) rfl (by omega) hz fun v hv hw => ?_)
  change Does Tryd.prog 26 _ _ _
  refine Does.alone 11 (kind o ?_)
  rw [hk2]
  change Does Tryd.prog 16 _ _ _
  refine Does.on 11 [0] _ _ (floor (k := k2) (n := n) (R := R) (ms := ms) (z := y) (kindAll hk26 hn16 (by omega)) rfl (by omega) hy fun u hu hx => ?_)
  change Does Tryd.prog 19 _ _ _
  refine Does.on 20 [2, 3, 4, 5, 6, 7, 8, 9, 10] _ _ (fairFinish (m := z) (v := v) hw hv fun v1 c hv1 hw1 => ?_)
  change Does Tryd.prog 19 _ _ _
  refine Does.on 20 [11, 12, 13, 14, 15, 16, 17, 18, 19] _ _ (fairFinish (m := y) (v := u) hx hu fun u1 c2 hu1 hx1 => ?_)
  generalize finish z = z1 at s1 hw1
  generalize finish y = y1 at s2 hx1
  have el1 := hw1.el
  have kz1 := hw1.k
  have el2 := hx1.el
  have kz2 := hx1.k
  refine SS.loop (fun t : Nat => t ≤ n) (fun t => [(2, i64 n), (11, cv (.ptr 2 0)), (12, cv (.ptr 11 0)), (54, i64 n), (55, i64 t)])
    (fun _ => [.rows true 2 (ms.map rowMove), rtH] ++ machS 2 z1 v1 ++ machS 11 y1 u1) (fun t => n - t) [8, 9, 10, 17, 18, 19, 21, 23]
    (At.mk' [2, 11, 12, 54, 55] 0 (Nat.zero_le _) ⟨rfl, rfl⟩ rfl rfl (by simp) (by simp) (by decide)) ?_
  intro t ht
  change t ≤ n at ht
  refine S_r ?_
  refine brc_intro (fun hlt => ?_) (fun hlt => ?_)
  · have hlt : t < n := by
      have := of_decide_eq_true hlt
      have : (t : Int) < (n : Int) := this
      omega
    have q1 := s1 t hlt
    have q2 := s2 t hlt
    refine SS.inlR ?_
    change Does Tryd.prog 17 _ _ _
    refine Does.on 20 [2, 3, 4, 5, 6, 7, 8, 9, 10] _ _ (coreEvents (m := z1) (v := v1) (by omega) ?_)
    refine SS.nil 14 1 (by decide) rfl ?_
    refine SS.loop (fun i : Nat => i ≤ z1.el.length) (fun i => [(2, i64 n), (11, cv (.ptr 2 0)), (12, cv (.ptr 11 0)), (13, i64 t), (14, cv (.slc 21 0 (saysT t (z1.el.take i)).length none false)), (15, cv .nilslc), (54, i64 n), (55, i64 t), (59, cv (.slc 20 0 z1.el.length none false)), (60, i64 z1.el.length), (61, i64 i)])
      (fun i => [.rows true 2 (ms.map rowMove), rtH] ++ machS 2 z1 v1 ++ machS 11 y1 u1 ++ [.rows false 4 (z1.el.map rowEv), .rows false 1 ((saysT t (z1.el.take i)).map rowZ)]) (fun i => z1.el.length - i) [8, 9, 10, 17, 18, 19, 21, 23]
      (At.mk' [2, 11, 12, 13, 14, 15, 54, 55, 59, 60, 61] 0 (Nat.zero_le _) ⟨rfl, rfl⟩ rfl rfl (by simp) (by simp) (by decide)) ?_
    intro i hi
    change i ≤ z1.el.length at hi
    refine S_r ?_
    refine brc_intro (fun hlt2 => ?_) (fun hlt2 => ?_)
    · have hlt2 : i < z1.el.length := by
        have := of_decide_eq_true hlt2
        have : (i : Int) < (z1.el.length : Int) := this
        omega
      obtain ⟨x, hx2⟩ : ∃ x, z1.el[i]? = some x := ⟨_, List.getElem?_eq_getElem hlt2⟩
      have hnx := saysT_take (t := t) hx2
      have hsl := saysT_len t (z1.el.take i)
      rw [List.length_take] at hsl
      refine SS.inlR ?_
      refine at2 (a := (0 : Int) ≤ (i : Int)) (b := (i : Int) < (z1.el.length : Int)) (by omega) (by omega) (rdA (rowEv x) (gev hx2) ?_)
      refine brc_intro (fun hxt => ?_) (fun hxt => ?_)
      · have hxt : x.t = (t : Int) := by simpa using hxt
        rw [if_pos hxt] at hnx
        refine And.intro (by simp) (Or.inl (And.intro rfl (And.intro (by simp) (And.intro (by show ((saysT t (z1.el.take i)).length + 2) * 8 ≤ _; omega) (And.intro (by show (saysT t (z1.el.take i)).length + 2 ≤ _; omega) ?_)))))
        refine At.mk' [2, 11, 12, 13, 14, 15, 54, 55, 59, 60, 61] (i + 1) ⟨hlt2, by omega⟩ ⟨?_, rfl⟩ ?_ rfl (by simp) (by simp) (by decide)
        · rw [wrap_i64 (i + 1) (by omega) (by omega), hnx, List.length_append]
          rfl
        · rw [hnx, List.map_append]
          rfl
      · have hxt : x.t ≠ (t : Int) := by simpa using hxt
        rw [if_neg hxt, List.append_nil] at hnx
        refine At.mk' [2, 11, 12, 13, 14, 15, 54, 55, 59, 60, 61] (i + 1) ⟨hlt2, by omega⟩ ⟨?_, rfl⟩ ?_ rfl (by simp) (by simp) (by decide)
        · rw [wrap_i64 (i + 1) (by omega) (by omega), hnx]
          rfl
        · rw [hnx]
          rfl
    · have hlt2 : ¬ (i : Int) < (z1.el.length : Int) := of_decide_eq_false hlt2
      obtain rfl : i = z1.el.length := by omega
      rw [List.take_length, q1]
      clear hlt2 hi
      change Does Tryd.prog 17 _ _ _
      refine Does.on 22 [11, 12, 13, 14, 15, 16, 17, 18, 19] _ _ (coreEvents (m := y1) (v := u1) (by omega) ?_)
      refine SS.nil 15 1 (by decide) rfl ?_
      refine SS.loop (fun i : Nat => i ≤ y1.el.length) (fun i => [(2, i64 n), (11, cv (.ptr 2 0)), (12, cv (.ptr 11 0)), (13, i64 t), (14, cv (.slc 21 0 (saysR R).length none false)), (15, cv (.slc 23 0 (saysT t (y1.el.take i)).length none false)), (54, i64 n), (55, i64 t), (78, cv (.slc 22 0 y1.el.length none false)), (79, i64 y1.el.length), (80, i64 i)])
        (fun i => [.rows true 2 (ms.map rowMove), rtH] ++ machS 2 z1 v1 ++ machS 11 y1 u1 ++ [.rows false 4 (z1.el.map rowEv), .rows false 1 ((saysR R).map rowZ), .rows false 4 (y1.el.map rowEv), .rows false 1 ((saysT t (y1.el.take i)).map rowZ)]) (fun i => y1.el.length - i) [8, 9, 10, 17, 18, 19, 21, 23]
        (At.mk' [2, 11, 12, 13, 14, 15, 54, 55, 78, 79, 80] 0 (Nat.zero_le _) ⟨rfl, rfl⟩ rfl rfl (by simp) (by simp) (by decide)) ?_
      intro i hi
      change i ≤ y1.el.length at hi
      refine S_r ?_
      refine brc_intro (fun hlt2 => ?_) (fun hlt2 => ?_)
      · have hlt2 : i < y1.el.length := by
          have := of_decide_eq_true hlt2
          have : (i : Int) < (y1.el.length : Int) := this
          omega
        obtain ⟨x, hx2⟩ : ∃ x, y1.el[i]? = some x := ⟨_, List.getElem?_eq_getElem hlt2⟩
        have hnx := saysT_take (t := t) hx2
        have hsl := saysT_len t (y1.el.take i)
        rw [List.length_take] at hsl
        refine SS.inlR ?_
        refine at2 (a := (0 : Int) ≤ (i : Int)) (b := (i : Int) < (y1.el.length : Int)) (by omega) (by omega) (rdA (rowEv x) (gev hx2) ?_)
        refine brc_intro (fun hxt => ?_) (fun hxt => ?_)
        · have hxt : x.t = (t : Int) := by simpa using hxt
          rw [if_pos hxt] at hnx
          refine And.intro (by simp) (Or.inl (And.intro rfl (And.intro (by simp) (And.intro (by show ((saysT t (y1.el.take i)).length + 2) * 8 ≤ _; omega) (And.intro (by show (saysT t (y1.el.take i)).length + 2 ≤ _; omega) ?_)))))
          refine At.mk' [2, 11, 12, 13, 14, 15, 54, 55, 78, 79, 80] (i + 1) ⟨hlt2, by omega⟩ ⟨?_, rfl⟩ ?_ rfl (by simp) (by simp) (by decide)
          · rw [wrap_i64 (i + 1) (by omega) (by omega), hnx, List.length_append]
            rfl
          · rw [hnx, List.map_append]
            rfl
        · have hxt : x.t ≠ (t : Int) := by simpa using hxt
          rw [if_neg hxt, List.append_nil] at hnx
          refine At.mk' [2, 11, 12, 13, 14, 15, 54, 55, 78, 79, 80] (i + 1) ⟨hlt2, by omega⟩ ⟨?_, rfl⟩ ?_ rfl (by simp) (by simp) (by decide)
          · rw [wrap_i64 (i + 1) (by omega) (by omega), hnx]
            rfl
          · rw [hnx]
            rfl
      · have hlt2 : ¬ (i : Int) < (y1.el.length : Int) := of_decide_eq_false hlt2
        obtain rfl : i = y1.el.length := by omega
        rw [List.take_length, q2]
        have hsl := saysT_len t z1.el
        rw [q1] at hsl
        change Does Tryd.prog 28 _ _ _
        refine Does.on 24 [21, 23] _ _ (equalInt (xs := saysR R) (ys := saysR R) (by omega) (fun _ => ?_) fun h => absurd rfl h)
        refine At.mk' [2, 11, 12, 54, 55] (t + 1) ⟨hlt, by omega⟩ ⟨?_, rfl⟩ rfl rfl (by simp) (by simp) (by decide)
        rw [wrap_i64 (t + 1) (by omega) (by omega)]
        rfl
  · exact fin rfl

end Go.Mac
