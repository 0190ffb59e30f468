/- No cell is acted on too often: the walk. -/
import Derived.Test.YtlimhldkkbaohaaGreatDoorGThin
import Derived.Test.YtlimhldkkbaohaaGreatDoorQDanceBd
import Derived.Test.YtlimhldkkbaohaaGreatDoorQStoreA
import Derived.Test.YtlimhldkkbaohaaGreatDoorGMapA
open Go Go.Proofs Go.Mac
set_option maxRecDepth 100000
namespace Go.Mac

section
variable {K : AV → List Nat → List PO → Prop} {m : MZ} {v : VZ}

theorem cntC_take {c : Nat} {l : List ActZ} {i : Nat} {a : ActZ} (h : l[i]? = some a) : cntC c (l.take (i + 1)) = cntC c (l.take i) + if a.c = (c : Int) then 1 else 0 := by
  rw [List.take_add_one, h]
  exact cntC_snoc c _ a

theorem cntC_sub (c : Nat) (l : List ActZ) (i : Nat) : cntC c (l.take i) ≤ cntC c l := by
  have : cntC c (l.take i ++ l.drop i) = cntC c (l.take i) + cntC c (l.drop i) := List.countP_append
  rw [List.take_append_drop] at this
  omega

/-- No cell is busier than that. -/
theorem busiest {B : Nat} (hal : m.al.length < 1000000) (hc : ∀ a ∈ m.al, 0 ≤ a.c) (hB : ∀ c : Nat, cntC c m.al ≤ B) (h : ∀ x : Nat, x ≤ B → K (i64 x) [] (machH m v)) :
    Does Tryz.prog 21 [cv (.ptr 0 0)] (machH m v) K := by
  refine does Tryz.func21 rfl (by decide) ?_
  change Does Tryz.prog 45 _ _ _
  refine Does.on 10 [0, 1, 2, 3, 4, 5, 6, 7, 8] _ _ (coreActs (m := m) (v := v) hal ?_)
  refine SS.loop (fun s : Nat × MapZ × Nat × Nat => s.1 ≤ m.al.length ∧ s.2.2.2 ≤ B ∧ ∀ c : Nat, mpGet s.2.1 [(c : Int)] = (cntC c (m.al.take s.1) : Int))
    (fun s => [(3, cv (.map 9)), (4, i64 s.2.2.2), (9, cv (.slc 10 0 m.al.length none false)), (10, i64 m.al.length), (11, i64 s.1)])
    (fun s => machH m v ++ [.mp 0 false s.2.1 s.2.2.1, .rows false 6 (m.al.map rowAct)]) (fun s => m.al.length - s.1) []
    (At.mk' [3, 4, 9, 10, 11] (0, [], 0, 0) ⟨Nat.zero_le _, Nat.zero_le _, fun c => rfl⟩ ⟨rfl, rfl⟩ rfl rfl (by simp) (by simp) (by simp)) ?_
  rintro ⟨i, es, clk, x⟩ ⟨hi, hx, hes⟩
  dsimp only at hi hx hes
  refine S_r ?_
  refine brc_intro (fun hlt => ?_) (fun hlt => ?_)
  · have hlt : i < m.al.length := by
      have := of_decide_eq_true hlt
      have : (i : Int) < (m.al.length : Int) := this
      omega
    obtain ⟨a, ha⟩ : ∃ a, m.al[i]? = some a := ⟨_, List.getElem?_eq_getElem hlt⟩
    obtain ⟨c, hac⟩ : ∃ c : Nat, a.c = c := ⟨a.c.toNat, by have := hc a (List.mem_of_getElem? ha); omega⟩
    have hg := hes c
    have hcl : cntC c (m.al.take i) ≤ i := by
      have := List.countP_le_length (p := fun a : ActZ => a.c == (c : Int)) (l := m.al.take i)
      rw [List.length_take] at this
      rw [cntC]
      omega
    have hnx := cntC_take (c := c) ha
    rw [if_pos hac] at hnx
    have hsub := Nat.le_trans (cntC_sub c m.al (i + 1)) (hB c)
    have wr : IntKind.i64.wrap ((i : Int) + 1) = ((i + 1 : Nat) : Int) := wrap_i64 _ (by omega) (by omega)
    have wm : IntKind.i64.wrap (mpGet es [a.c] + 1) = ((cntC c (m.al.take i) + 1 : Nat) : Int) := by rw [hac, hg]; exact (wrap_i64 _ (by omega) (by omega)).trans (by omega)
    refine at2 (a := (0 : Int) ≤ (i : Int)) (b := (i : Int) < (m.al.length : Int)) (by omega) (by omega) (rdA (rowAct a) (gActN ha) ?_)
    refine At.mk' [3, 4, 9, 10, 11] (i + 1, mpPut es [a.c] (IntKind.i64.wrap (mpGet es [a.c] + 1)) clk, mpClk es [a.c] clk, max x (cntC c (m.al.take i) + 1)) ⟨⟨hlt, by dsimp only; omega, fun d => ?_⟩, by show m.al.length - (i + 1) < m.al.length - i; omega⟩ ⟨?_, rfl⟩ rfl rfl (by simp) (by simp) (by decide)
    · dsimp only
      rw [mpGet_put, wm, cntC_take ha]
      by_cases hdc : d = c
      · subst hdc
        rw [if_pos (by rw [hac]), if_pos hac]
      · rw [if_neg fun h => hdc (by have := (List.cons.inj h).1; omega), if_neg (by omega)]
        exact hes d
    · dsimp only
      rw [wr, mpGet_put, if_pos rfl, wm]
      have hmx : (if ((cntC c (m.al.take i) + 1 : Nat) : Int) > (x : Int) then ((cntC c (m.al.take i) + 1 : Nat) : Int) else (x : Int)) = ((max x (cntC c (m.al.take i) + 1) : Nat) : Int) := by
        split <;> omega
      rw [hmx]
  · have hlt : ¬ (i : Int) < (m.al.length : Int) := of_decide_eq_false hlt
    exact h x hx

end

theorem pick4 (k : Int) : ∃ i q : Nat, pickZ k 4 = (i : Int) ∧ i < 4 ∧ ([2, 5, 6, 4] : List Nat)[i]? = some q ∧ thinK q := by
  have := pickZ_lt k (n := 4) (by decide)
  rcases (show pickZ k 4 = 0 ∨ pickZ k 4 = 1 ∨ pickZ k 4 = 2 ∨ pickZ k 4 = 3 by omega) with h | h | h | h
  · exact ⟨0, 2, h, by decide, rfl, .inl rfl⟩
  · exact ⟨1, 5, h, by decide, rfl, .inr (by decide)⟩
  · exact ⟨2, 6, h, by decide, rfl, .inr (by decide)⟩
  · exact ⟨3, 4, h, by decide, rfl, .inr (by decide)⟩

theorem danceThin (k : Int) (_hk : -9223372036854775808 ≤ k ∧ k ≤ 9223372036854775807) (n : Int) (_hn : -9223372036854775808 ≤ n ∧ n ≤ 9223372036854775807) (R : Int) (_hR : -9223372036854775808 ≤ R ∧ R ≤ 9223372036854775807) (l : List Int) (_hl : ∀ x ∈ l, -9223372036854775808 ≤ x ∧ x ≤ 9223372036854775807) :
    Does Tryz.prog 5 [i64 k, i64 n, i64 R, cv (.slc 0 0 l.length none false)] [.rows true 1 (l.map rowZ), rtH] fun v _ _ => v = bl true := by
  refine does Tryz.func5 rfl (by decide) ?_
  change Does Tryz.prog 6 _ _ _
  refine Does.on 2 [1] _ _ (danced ?_)
  refine brc_intro (fun _ => rfl) (fun h => ?_)
  have hms : l.length ≤ 600 := by
    have := of_decide_eq_false h
    omega
  change Does Tryz.prog 8 _ _ _
  refine Does.alone 2 (ball 0 n R ?_)
  obtain ⟨n, hn, hn16⟩ := pick16b n
  obtain ⟨R, hR, hR6⟩ := pick7 R
  rw [hn, hR]
  obtain ⟨i, q, hi, hi4, hq, hqk⟩ := pick4 k
  change Does Tryz.prog 18 _ _ _
  refine Does.alone 3 (pick k 4 (by decide) ?_)
  rw [hi]
  refine at2 (a := (0 : Int) ≤ (i : Int)) (b := (i : Int) < 4) (by omega) (by omega) (rd1 [.int .i64 q] (.int .i64 q) (by
    rcases (show i = 0 ∨ i = 1 ∨ i = 2 ∨ i = 3 by omega) with rfl | rfl | rfl | rfl <;> (obtain rfl := Option.some.inj hq; rfl)) rfl ?_)
  have hq6 : 1 ≤ q ∧ q ≤ 6 := by rcases hqk with h | h <;> omega
  obtain ⟨c1, c2⟩ := thin_law hqk hn16 hR6 (l.map (pickS n)) (fun x hx => by
    obtain ⟨t, _, rfl⟩ := List.mem_map.1 hx
    rfl)
  clear hi hq hi4
  change Does Tryz.prog 13 _ _ _
  refine Does.alone 3 (floor0 (k := q) (n := n) (R := R) (kindAll hq6 hn16 (by omega)) fun v hv hw => ?_)
  refine SS.loop (fun p : Nat × VZ => p.1 ≤ l.length ∧ okV p.2) (fun p => [(1, i64 n), (2, i64 R), (9, cv (.ptr 3 0)), (35, cv (.slc 0 0 l.length none false)), (36, i64 l.length), (37, i64 p.1)])
    (fun p => [.rows true 1 (l.map rowZ), rtH, .rows false 1 [[.int .i64 2], [.int .i64 5], [.int .i64 6], [.int .i64 4]]] ++ machS 3 (movesZ (danceM q n R) ((l.map (pickS n)).take p.1)) p.2) (fun p => l.length - p.1) [9, 10, 11]
    (At.mk' [1, 2, 9, 35, 36, 37] (0, v) ⟨by simp, hv⟩ ⟨rfl, rfl⟩ rfl rfl (by simp) (by simp) (by decide)) ?_
  rintro ⟨i, v1⟩ ⟨hik, hv1⟩
  change i ≤ l.length at hik
  change okV v1 at hv1
  refine S_r ?_
  refine brc_intro (fun hlt => ?_) (fun hlt => ?_)
  · have hlt : i < l.length := by
      have := of_decide_eq_true hlt
      have : (i : Int) < (l.length : Int) := this
      omega
    obtain ⟨x, hx⟩ : ∃ x, l[i]? = some x := ⟨_, List.getElem?_eq_getElem (by omega)⟩
    have hw1 := hw.moves ((l.map (pickS n)).take i)
    have hnx := movesZ_take (danceM q n R) (l.map (pickS n)) i (pickS n x) (by simp [hx])
    rw [moveZ, if_neg (show ¬ (pickS n x).pk = true from fun h => by cases h)] at hnx
    have hup : IntKind.i64.wrap ((i : Int) + 1) = ((i + 1 : Nat) : Int) := wrap_i64 (i + 1) (by omega) (by omega)
    refine at2 (a := (0 : Int) ≤ (i : Int)) (b := (i : Int) < (l.length : Int)) (by omega) (by omega) (rd1 (rowZ x) (.int .i64 x) (by simp [hx]) rfl ?_)
    change Does Tryz.prog 18 _ _ _
    refine Does.alone 12 (pick x n (by omega) ?_)
    change Does Tryz.prog 19 _ _ _
    refine Does.on 12 [3, 4, 5, 6, 7, 8, 9, 10, 11] _ _ (coreStep (m := movesZ (danceM q n R) ((l.map (pickS n)).take i)) (v := v1) hw1 hv1 (pickZ x n) (fun _ v' hv' => ?_) fun _ v' hv' => ?_)
    all_goals
      rw [show (stepZ (movesZ (danceM q n R) ((l.map (pickS n)).take i)) (pickZ x n)).2 = movesZ (danceM q n R) ((l.map (pickS n)).take (i + 1)) from hnx.symm]
      refine At.mk' [1, 2, 9, 35, 36, 37] (i + 1, v') ⟨⟨hlt, hv'⟩, by show l.length - (i + 1) < l.length - i; omega⟩ ⟨?_, rfl⟩ rfl rfl (by simp) (by simp) (by decide)
      rw [hup]
      rfl
  · have hlt : ¬ (i : Int) < (l.length : Int) := of_decide_eq_false hlt
    obtain rfl : i = l.length := by omega
    have hw1 := hw.moves (l.map (pickS n))
    rw [show (l.map (pickS n)).take l.length = l.map (pickS n) from List.take_of_length_le (by rw [List.length_map]; omega)]
    generalize movesZ (danceM q n R) (l.map (pickS n)) = z at *
    change Does Tryz.prog 20 _ _ _
    refine Does.on 12 [3, 4, 5, 6, 7, 8, 9, 10, 11] _ _ (fairFinish (m := z) (v := v1) hw1 hv1 fun v2 c hv2 hw2 => ?_)
    generalize finish z = z1 at *
    have hal := hw2.al
    have hkz := hw2.k
    change Does Tryz.prog 21 _ _ _
    refine Does.on 12 [3, 4, 5, 6, 7, 8, 9, 10, 11] _ _ (busiest (m := z1) (v := v2) (by omega) (fun a ha => (c2 a ha).1) c1 fun x hx => ?_)
    refine fin ?_
    rw [show IntKind.i64.wrap (8 * (R : Int)) = ((8 * R : Nat) : Int) from (wrap_i64 _ (by omega) (by omega)).trans (by omega)]
    exact decide_eq_true (by omega)

end Go.Mac
