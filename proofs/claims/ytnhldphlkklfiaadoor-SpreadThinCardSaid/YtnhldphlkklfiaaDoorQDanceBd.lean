/- No more steps than three times the instructions, for each round and one. -/
import Derived.Test.YtnhldphlkklfiaaDoorQDanceZ
import Derived.Test.YtnhldphlkklfiaaDoorQDanceL
open Go Go.Proofs Go.Mac
set_option maxRecDepth 100000
namespace Go.Mac

/-- Picks as moves. -/
def pickS (n : Nat) (t : Int) : MoveZ := ⟨pickZ t n, false⟩

theorem size_ge (k n : Nat) : ∀ i, 8 * i ≤ sizeT k n i
  | 0 => Nat.zero_le _
  | i + 1 => by
    have := size_ge k n i
    rw [size_succ]
    omega

theorem dance_bound {k n R : Nat} (hk : 1 ≤ k ∧ k ≤ 6) (hn : 1 ≤ n ∧ n ≤ 16) (hR : R ≤ 6) (l : List Int) :
    ∃ A V b, DI n (kindC k n) R (PP k n) (kindI k n R) (kindF k n R) b A V (finish (movesZ (danceM k n R) (l.map (pickS n)))) ∧ (∀ t, t < n → (A t).l = .ended) ∧ b ≤ 3 * sizeT k n n * (R + 1) := by
  obtain ⟨A, V, h, _⟩ := DI.steps (kind_bar R hk hn) (fun _ => False) (l.map (pickS n)) (fun x hx => by
    obtain ⟨t, _, rfl⟩ := List.mem_map.1 hx
    exact ⟨rfl, fun _ h => h.elim⟩) (dance_begin hk hn (show R ≤ 20 by omega))
  obtain ⟨h1, h2⟩ := cost_le hk hn
  have h3 : R * costK k n ≤ 6 * costK k n := Nat.mul_le_mul_right _ hR
  have h4 : R * costK k n ≤ R * (3 * sizeT k n n) := Nat.mul_le_mul_left _ h1
  have h5 := size_ge k n n
  obtain ⟨A', V', g1, g2⟩ := h.finish (kind_bar R hk hn) (by omega)
  refine ⟨A', V', _, g1, g2, ?_⟩
  rw [Nat.mul_add, Nat.mul_one, Nat.mul_comm _ R]
  omega

theorem danceBound (k : Int) (_hk : -9223372036854775808 ≤ k ∧ k ≤ 9223372036854775807) (n : Int) (_hn : -9223372036854775808 ≤ n ∧ n ≤ 9223372036854775807) (R : Int) (_hR : -9223372036854775808 ≤ R ∧ R ≤ 9223372036854775807) (l : List Int) (_hl : ∀ x ∈ l, -9223372036854775808 ≤ x ∧ x ≤ 9223372036854775807) :
    Does Tryd.prog 6 [i64 k, i64 n, i64 R, cv (.slc 0 0 l.length none false)] [.rows true 1 (l.map rowZ), rtH] fun v _ _ => v = bl true := by
  refine does Tryd.func6 rfl (by decide) ?_
  change Does Tryd.prog 13 _ _ _
  refine Does.on 2 [1] _ _ (danced ?_)
  refine brc_intro (fun _ => rfl) (fun h => ?_)
  have hms : l.length ≤ 900 := by
    have := of_decide_eq_false h
    omega
  change Does Tryd.prog 14 _ _ _
  refine Does.alone 2 (ball k n R ?_)
  obtain ⟨k, hk, hk6⟩ := pick6 k
  obtain ⟨n, hn, hn16⟩ := pick16b n
  obtain ⟨R, hR, hR6⟩ := pick7 R
  rw [hk, hn, hR]
  obtain ⟨A, V, b, hD, he, hbd⟩ := dance_bound hk6 hn16 hR6 l
  obtain ⟨o1, _⟩ := hD.ended (kind_bar R hk6 hn16) hn16.1 he
  have hpot := hD.pot
  clear hD he
  change Does Tryd.prog 16 _ _ _
  refine Does.alone 2 (floor0 (k := k) (n := n) (R := R) (kindAll hk6 hn16 (by omega)) fun v hv hw => ?_)
  refine SS.loop (fun p : Nat × VZ => p.1 ≤ l.length ∧ okV p.2) (fun p => [(0, i64 k), (1, i64 n), (2, i64 R), (9, cv (.ptr 2 0)), (33, cv (.slc 0 0 l.length none false)), (34, i64 l.length), (35, i64 p.1)])
    (fun p => [.rows true 1 (l.map rowZ), rtH] ++ machS 2 (movesZ (danceM k n R) ((l.map (pickS n)).take p.1)) p.2) (fun p => l.length - p.1) [8, 9, 10]
    (At.mk' [0, 1, 2, 9, 33, 34, 35] (0, v) ⟨by simp, hv⟩ ⟨rfl, rfl⟩ rfl rfl (by simp) (by simp) (by decide)) ?_
  rintro ⟨i, v1⟩ ⟨hik, hv1⟩
  change i ≤ l.length at hik
  change okV v1 at hv1
  refine S_r ?_
  refine brc_intro (fun hlt => ?_) (fun hlt => ?_)
  · have hlt : i < l.length := by
      have := of_decide_eq_true hlt
      have : (i : Int) < (l.length : Int) := this
      omega
    obtain ⟨x, hx⟩ : ∃ x, l[i]? = some x := ⟨_, List.getElem?_eq_getElem (by omega)⟩
    have hw1 := hw.moves ((l.map (pickS n)).take i)
    have hnx := movesZ_take (danceM k n R) (l.map (pickS n)) i (pickS n x) (by simp [hx])
    rw [moveZ, if_neg (show ¬ (pickS n x).pk = true from fun h => by cases h)] at hnx
    have hup : IntKind.i64.wrap ((i : Int) + 1) = ((i + 1 : Nat) : Int) := wrap_i64 (i + 1) (by omega) (by omega)
    refine at2 (a := (0 : Int) ≤ (i : Int)) (b := (i : Int) < (l.length : Int)) (by omega) (by omega) (rd1 (rowZ x) (.int .i64 x) (by simp [hx]) rfl ?_)
    change Does Tryd.prog 15 _ _ _
    refine Does.alone 11 (pick x n (by omega) ?_)
    change Does Tryd.prog 21 _ _ _
    refine Does.on 11 [2, 3, 4, 5, 6, 7, 8, 9, 10] _ _ (coreStep (m := movesZ (danceM k n R) ((l.map (pickS n)).take i)) (v := v1) hw1 hv1 (pickZ x n) (fun _ v' hv' => ?_) fun _ v' hv' => ?_)
    all_goals
      rw [show (stepZ (movesZ (danceM k n R) ((l.map (pickS n)).take i)) (pickZ x n)).2 = movesZ (danceM k n R) ((l.map (pickS n)).take (i + 1)) from hnx.symm]
      refine At.mk' [0, 1, 2, 9, 33, 34, 35] (i + 1, v') ⟨⟨hlt, hv'⟩, by show l.length - (i + 1) < l.length - i; omega⟩ ⟨?_, rfl⟩ rfl rfl (by simp) (by simp) (by decide)
      rw [hup]
      rfl
  · have hlt : ¬ (i : Int) < (l.length : Int) := of_decide_eq_false hlt
    obtain rfl : i = l.length := by omega
    have hw1 := hw.moves (l.map (pickS n))
    rw [show (l.map (pickS n)).take l.length = l.map (pickS n) from List.take_of_length_le (by rw [List.length_map]; omega)]
    generalize movesZ (danceM k n R) (l.map (pickS n)) = z at *
    change Does Tryd.prog 19 _ _ _
    refine Does.on 11 [2, 3, 4, 5, 6, 7, 8, 9, 10] _ _ (fairFinish (m := z) (v := v1) hw1 hv1 fun v2 c hv2 hw2 => ?_)
    generalize finish z = z1 at *
    have hkz := hw2.k
    change Does Tryd.prog 20 _ _ _
    refine Does.on 11 [2, 3, 4, 5, 6, 7, 8, 9, 10] _ _ (coreEnds (m := z1) (v := v2) hw2 ?_)
    rw [o1]
    change Does Tryd.prog 22 _ _ _
    refine Does.on 11 [2, 3, 4, 5, 6, 7, 8, 9, 10] _ _ (coreSteps (m := z1) (v := v2) ?_)
    change Does Tryd.prog 23 _ _ _
    refine Does.alone 11 (size (k := k) (n := n) (R := R) hk6 hn16 (by omega) ?_)
    refine fin ?_
    have hs := size_le hk6 hn16 n (Nat.le_refl n)
    generalize sizeT k n n = S at *
    have hsb : S ≤ 16 * 10008 := by omega
    have hm : 3 * S * (R + 1) ≤ 3 * (16 * 10008) * 7 := Nat.mul_le_mul (by omega) (by omega)
    have e : IntKind.i64.wrap (IntKind.i64.wrap (3 * (S : Int)) * IntKind.i64.wrap ((R : Int) + 1)) = ((3 * S * (R + 1) : Nat) : Int) := by
      rw [wrap_i64 (3 * (S : Int)) (by omega) (by omega), wrap_i64 ((R : Int) + 1) (by omega) (by omega), show (3 * (S : Int)) * ((R : Int) + 1) = ((3 * S * (R + 1) : Nat) : Int) by push_cast; rfl, wrap_i64 _ (by omega) (by omega)]
    rw [e]
    exact decide_eq_true (by omega)

end Go.Mac
