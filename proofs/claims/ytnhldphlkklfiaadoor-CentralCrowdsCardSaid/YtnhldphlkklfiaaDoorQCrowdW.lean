/- At one cell: the walk. -/
import Derived.Test.YtnhldphlkklfiaaDoorQCrowds
import Derived.Test.YtnhldphlkklfiaaDoorQDanceBd
import Derived.Test.YtnhldphlkklfiaaDoorQStoreA
open Go Go.Proofs Go.Mac
set_option maxRecDepth 100000
namespace Go.Mac

theorem isF_take {al : List ActZ} {i : Nat} {a : ActZ} (h : al[i]? = some a) : (al.take (i + 1)).countP isF = (al.take i).countP isF + if isF a = true then 1 else 0 := by
  rw [List.take_add_one, h, List.countP_append]
  congr 1
  exact List.countP_singleton ..

theorem centralCrowds (n : Int) (_hn : -9223372036854775808 ≤ n ∧ n ≤ 9223372036854775807) (R : Int) (_hR : -9223372036854775808 ≤ R ∧ R ≤ 9223372036854775807) (l : List Int) (_hl : ∀ x ∈ l, -9223372036854775808 ≤ x ∧ x ≤ 9223372036854775807) :
    Does Tryd.prog 8 [i64 n, i64 R, cv (.slc 0 0 l.length none false)] [.rows true 1 (l.map rowZ), rtH] fun v _ _ => v = bl true := by
  refine does Tryd.func8 rfl (by decide) ?_
  change Does Tryd.prog 13 _ _ _
  refine Does.on 2 [1] _ _ (danced ?_)
  refine brc_intro (fun _ => rfl) (fun h => ?_)
  have hms : l.length ≤ 600 := by
    have := of_decide_eq_false h
    omega
  change Does Tryd.prog 14 _ _ _
  refine Does.alone 2 (ball 0 n R ?_)
  obtain ⟨n, hn, hn16⟩ := pick16b n
  obtain ⟨R, hR, hR6⟩ := pick7 R
  rw [hn, hR]
  obtain ⟨c1, c2⟩ := central_crowd hn16 hR6 (l.map (pickS n)) (by rw [List.length_map]; omega)
  change Does Tryd.prog 16 _ _ _
  refine Does.alone 2 (floor0 (k := 1) (n := n) (R := R) (kindAll (by decide) hn16 (by omega)) fun v hv hw => ?_)
  refine SS.loop (fun p : Nat × VZ => p.1 ≤ l.length ∧ okV p.2) (fun p => [(0, i64 n), (1, i64 R), (7, cv (.ptr 2 0)), (30, cv (.slc 0 0 l.length none false)), (31, i64 l.length), (32, i64 p.1)])
    (fun p => [.rows true 1 (l.map rowZ), rtH] ++ machS 2 (movesZ (danceM 1 n R) ((l.map (pickS n)).take p.1)) p.2) (fun p => l.length - p.1) [8, 9, 10]
    (At.mk' [0, 1, 7, 30, 31, 32] (0, v) ⟨by simp, hv⟩ ⟨rfl, rfl⟩ rfl rfl (by simp) (by simp) (by decide)) ?_
  rintro ⟨i, v1⟩ ⟨hik, hv1⟩
  change i ≤ l.length at hik
  change okV v1 at hv1
  refine S_r ?_
  refine brc_intro (fun hlt => ?_) (fun hlt => ?_)
  · have hlt : i < l.length := by
      have := of_decide_eq_true hlt
      have : (i : Int) < (l.length : Int) := this
      omega
    obtain ⟨x, hx⟩ : ∃ x, l[i]? = some x := ⟨_, List.getElem?_eq_getElem (by omega)⟩
    have hw1 := hw.moves ((l.map (pickS n)).take i)
    have hnx := movesZ_take (danceM 1 n R) (l.map (pickS n)) i (pickS n x) (by simp [hx])
    rw [moveZ, if_neg (show ¬ (pickS n x).pk = true from fun h => by cases h)] at hnx
    have hup : IntKind.i64.wrap ((i : Int) + 1) = ((i + 1 : Nat) : Int) := wrap_i64 (i + 1) (by omega) (by omega)
    refine at2 (a := (0 : Int) ≤ (i : Int)) (b := (i : Int) < (l.length : Int)) (by omega) (by omega) (rd1 (rowZ x) (.int .i64 x) (by simp [hx]) rfl ?_)
    change Does Tryd.prog 15 _ _ _
    refine Does.alone 11 (pick x n (by omega) ?_)
    change Does Tryd.prog 21 _ _ _
    refine Does.on 11 [2, 3, 4, 5, 6, 7, 8, 9, 10] _ _ (coreStep (m := movesZ (danceM 1 n R) ((l.map (pickS n)).take i)) (v := v1) hw1 hv1 (pickZ x n) (fun _ v' hv' => ?_) fun _ v' hv' => ?_)
    all_goals
      rw [show (stepZ (movesZ (danceM 1 n R) ((l.map (pickS n)).take i)) (pickZ x n)).2 = movesZ (danceM 1 n R) ((l.map (pickS n)).take (i + 1)) from hnx.symm]
      refine At.mk' [0, 1, 7, 30, 31, 32] (i + 1, v') ⟨⟨hlt, hv'⟩, by show l.length - (i + 1) < l.length - i; omega⟩ ⟨?_, rfl⟩ rfl rfl (by simp) (by simp) (by decide)
      rw [hup]
      rfl
  · have hlt : ¬ (i : Int) < (l.length : Int) := of_decide_eq_false hlt
    obtain rfl : i = l.length := by omega
    have hw1 := hw.moves (l.map (pickS n))
    rw [show (l.map (pickS n)).take l.length = l.map (pickS n) from List.take_of_length_le (by rw [List.length_map]; omega)]
    generalize movesZ (danceM 1 n R) (l.map (pickS n)) = z at *
    change Does Tryd.prog 19 _ _ _
    refine Does.on 11 [2, 3, 4, 5, 6, 7, 8, 9, 10] _ _ (fairFinish (m := z) (v := v1) hw1 hv1 fun v2 c hv2 hw2 => ?_)
    generalize finish z = z1 at *
    have hal := hw2.al
    have hkz := hw2.k
    change Does Tryd.prog 25 _ _ _
    refine Does.on 11 [2, 3, 4, 5, 6, 7, 8, 9, 10] _ _ (coreActs (m := z1) (v := v2) (by omega) ?_)
    refine SS.loop (fun j : Nat => j ≤ z1.al.length) (fun j => [(0, i64 n), (1, i64 R), (10, i64 ((z1.al.take j).countP isF)), (45, cv (.slc 11 0 z1.al.length none false)), (46, i64 z1.al.length), (47, i64 j)])
      (fun _ => [.rows true 1 (l.map rowZ), rtH] ++ machS 2 z1 v2 ++ [.rows false 6 (z1.al.map rowAct)]) (fun j => z1.al.length - j) [8, 9, 10]
      (At.mk' [0, 1, 10, 45, 46, 47] 0 (Nat.zero_le _) ⟨rfl, rfl⟩ rfl rfl (by simp) (by simp) (by decide)) ?_
    intro j hj
    change j ≤ z1.al.length at hj
    refine S_r ?_
    refine brc_intro (fun hlt2 => ?_) (fun hlt2 => ?_)
    · have hlt2 : j < z1.al.length := by
        have := of_decide_eq_true hlt2
        have : (j : Int) < (z1.al.length : Int) := this
        omega
      obtain ⟨a, ha⟩ : ∃ a, z1.al[j]? = some a := ⟨_, List.getElem?_eq_getElem hlt2⟩
      have hca := c2 a (List.mem_of_getElem? ha)
      have hnx := isF_take ha
      have hcl : (z1.al.take j).countP isF ≤ j := by
        have := List.countP_le_length (p := isF) (l := z1.al.take j)
        rw [List.length_take] at this
        omega
      have wr : IntKind.i64.wrap ((j : Int) + 1) = ((j + 1 : Nat) : Int) := wrap_i64 _ (by omega) (by omega)
      have wc : IntKind.i64.wrap (((z1.al.take j).countP isF : Nat) + 1) = (((z1.al.take j).countP isF + 1 : Nat) : Int) := wrap_i64 _ (by omega) (by omega)
      refine SS.inlR ?_
      refine at2 (a := (0 : Int) ≤ (j : Int)) (b := (j : Int) < (z1.al.length : Int)) (by omega) (by omega) (rdA (rowAct a) (gActN ha) ?_)
      refine brc_intro (fun h8 => ?_) (fun h8 => ?_)
      · have h8 : a.o = 8 := by simpa using h8
        refine brc_intro (fun h0 => ?_) (fun h0 => ?_)
        · have h0 : a.c = 0 := by simpa using h0
          rw [if_pos (show isF a = true by rw [isF, h8, h0]; rfl)] at hnx
          refine brc_intro (fun h1 => ?_) (fun _ => ?_)
          · have h1 : a.c > 1 := of_decide_eq_true h1
            omega
          refine At.mk' [0, 1, 10, 45, 46, 47] (j + 1) ⟨hlt2, by omega⟩ ⟨?_, rfl⟩ rfl rfl (by simp) (by simp) (by decide)
          rw [wr, wc, hnx]
        · have h0 : a.c ≠ 0 := by simpa using h0
          rw [if_neg (show ¬ isF a = true by rw [isF]; simp [h0])] at hnx
          refine brc_intro (fun h1 => ?_) (fun _ => ?_)
          · have h1 : a.c > 1 := of_decide_eq_true h1
            omega
          refine At.mk' [0, 1, 10, 45, 46, 47] (j + 1) ⟨hlt2, by omega⟩ ⟨?_, rfl⟩ rfl rfl (by simp) (by simp) (by decide)
          rw [wr, hnx]
          rfl
      · have h8 : a.o ≠ 8 := by simpa using h8
        rw [if_neg (show ¬ isF a = true by rw [isF]; simp [h8])] at hnx
        refine brc_intro (fun h1 => ?_) (fun _ => ?_)
        · have h1 : a.c > 1 := of_decide_eq_true h1
          omega
        refine At.mk' [0, 1, 10, 45, 46, 47] (j + 1) ⟨hlt2, by omega⟩ ⟨?_, rfl⟩ rfl rfl (by simp) (by simp) (by decide)
        rw [wr, hnx]
        rfl
    · have hlt2 : ¬ (j : Int) < (z1.al.length : Int) := of_decide_eq_false hlt2
      obtain rfl : j = z1.al.length := by omega
      rw [List.take_length, c1]
      refine fin ?_
      have hnR : n * R ≤ 16 * 6 := Nat.mul_le_mul hn16.2 hR6
      rw [← Int.natCast_mul, wrap_i64 _ (by omega) (by omega)]
      simp

end Go.Mac
