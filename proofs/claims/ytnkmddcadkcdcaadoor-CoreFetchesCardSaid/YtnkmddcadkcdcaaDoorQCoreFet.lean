/- Of all that fetch and add one each finds another number. -/
import Derived.Test.YtnkmddcadkcdcaaDoorQRaced
import Derived.Test.YtnkmddcadkcdcaaDoorQRaceL
import Derived.Test.YtnkmddcadkcdcaaDoorGBase
import Derived.Test.YtnkmddcadkcdcaaDoorQMapSet
open Go Go.Proofs Go.Mac
set_option maxRecDepth 100000
namespace Go.Mac

def fetR (c : Nat) : List InsZ := (List.replicate c fetB).flatten

theorem fetR_succ (c : Nat) : fetR (c + 1) = fetR c ++ fetB := by rw [fetR, List.replicate_succ', List.flatten_append]; simp [fetR]
theorem fetR_len : ∀ c, (fetR c).length = 2 * c
  | 0 => rfl
  | c + 1 => by rw [fetR_succ, List.length_append, fetR_len c]; rfl

theorem fetU_cat : ∀ (c p : Nat), catU p (fetL c) = fetR c
  | 0, _ => rfl
  | c + 1, p => by
    have := fetU_cat c (p + 2)
    rw [fetL, List.replicate_succ, List.map_cons, catU, fetR, List.replicate_succ, List.flatten_cons]
    exact congrArg (fetB ++ ·) this

theorem fetP_cat (c : Nat) : catP (fetL c) = fetR c ++ [⟨0, 0, 0, 0, 0⟩] := by rw [catP, fetU_cat]

theorem coreFetches (a : Int) (_ha : -9223372036854775808 ≤ a ∧ a ≤ 9223372036854775807) (b : Int) (_hb : -9223372036854775808 ≤ b ∧ b ≤ 9223372036854775807) (ms : List MoveZ) :
    Does Tryd.prog 8 [i64 a, i64 b, cv (.slc 0 0 ms.length none false)] [.rows true 2 (ms.map rowMove), rtH] fun v _ _ => v = bl true := by
  refine does Tryd.func8 rfl (by decide) ?_
  change Does Tryd.prog 42 _ _ _
  refine Does.alone 2 (gone ?_)
  refine brc_intro (fun _ => rfl) (fun h => ?_)
  have hms : ms.length ≤ 300 := by
    have := of_decide_eq_false h
    omega
  change Does Tryd.prog 23 _ _ _
  refine Does.alone 2 (pick a 16 (by decide) ?_)
  change Does Tryd.prog 23 _ _ _
  refine Does.alone 2 (pick b 9 (by decide) ?_)
  have hpa := pickZ_lt a (n := 16) (by decide)
  have hpb := pickZ_lt b (n := 9) (by decide)
  rw [wrap_i64 (1 + pickZ a 16) (by omega) (by omega)]
  obtain ⟨n, hn⟩ := Int.eq_ofNat_of_zero_le (show 0 ≤ 1 + pickZ a 16 by omega)
  obtain ⟨c, hc⟩ := Int.eq_ofNat_of_zero_le hpb.1
  have hn16 : 1 ≤ n ∧ n ≤ 16 := by omega
  have hc8 : c ≤ 8 := by omega
  rw [hn, hc]
  clear hn hc hpa hpb
  have hnc : n * c ≤ 128 := by
    have := Nat.mul_le_mul hn16.2 hc8
    omega
  have wnc : IntKind.i64.wrap ((n : Int) * (c : Int)) = ((n * c : Nat) : Int) := by
    rw [← Int.natCast_mul]
    exact wrap_i64 _ (by omega) (by omega)
  refine SS.nil 7 5 (by decide) rfl ?_
  refine SS.loop (fun j : Nat => j ≤ c) (fun j => [(0, i64 n), (1, i64 c), (2, cv (.slc 0 0 ms.length none false)), (7, cv (.slc 2 0 (2 * j) none false)), (22, i64 c), (23, i64 j)]) (fun j => [.rows true 2 (ms.map rowMove), rtH, .rows false 5 ((fetR j).map rowIns)]) (fun j => c - j) [2]
    (At.mk' [0, 1, 2, 7, 22, 23] 0 (Nat.zero_le _) ⟨rfl, rfl⟩ rfl rfl (by simp) (by simp) (by simp)) ?_
  intro j hj
  change j ≤ c at hj
  refine S_r ?_
  refine brc_intro (fun hlt => ?_) (fun hlt => ?_)
  · have hlt : j < c := by
      have := of_decide_eq_true hlt
      have : (j : Int) < (c : Int) := this
      omega
    refine And.intro (by simp) (Or.inl (And.intro rfl (And.intro (by simp [fetR_len]) (And.intro (by show (2 * j + 2) * 40 ≤ _; omega) (And.intro (by show 2 * j + 2 ≤ _; omega) ?_)))))
    refine At.mk' [0, 1, 2, 7, 22, 23] (j + 1) ⟨hlt, by omega⟩ ⟨?_, rfl⟩ ?_ rfl (by simp) (by simp) (by decide)
    · rw [wrap_i64 (j + 1) (by omega) (by omega)]
      rfl
    · rw [fetR_succ, List.map_append]
      rfl
  have hlt : ¬ (j : Int) < (c : Int) := of_decide_eq_false hlt
  obtain rfl : j = c := by omega
  refine And.intro (by simp) (Or.inl (And.intro rfl (And.intro (by simp [fetR_len]) (And.intro (by show (2 * j + 1) * 40 ≤ _; omega) (And.intro (by show 2 * j + 1 ≤ _; omega) ?_)))))
  skip
  obtain ⟨z, hz, hws, hel, hnd⟩ := fet_fin hn16.2 hc8 (stepsL n ms)
  rw [fetP_cat] at hz
  have hmap : (fetR j).map rowIns ++ List.take 1 (List.drop 0 [[FC.int .i64 0, FC.int .i64 0, FC.int .i64 0, FC.int .i64 0, FC.int .i64 0]]) = (fetR j ++ [(⟨0, 0, 0, 0, 0⟩ : InsZ)]).map rowIns := by rw [List.map_append]; rfl
  change Does Tryd.prog 43 _ _ _
  rw [hmap]
  refine Does.on 4 [2, 0] _ _ (raced (p := fetR j ++ [⟨0, 0, 0, 0, 0⟩]) (ms := ms) (q := 2 * j + 1) (by rw [List.length_append, fetR_len]; rfl) rfl hn16 (by omega) (by rw [← fetP_cat]; exact fet_right hc8) rfl fun u hu _ hw => ?_)
  rw [hz] at hw ⊢
  clear hz
  change Does Tryd.prog 36 _ _ _
  refine Does.on 14 [4, 5, 6, 7, 8, 9, 10, 11, 12] _ _ (coreEvents (m := z) (v := u) (by omega) ?_)
  refine SS.loop (fun p : Nat × MapZ × Nat => p.1 ≤ z.el.length ∧ MSet p.2.1 ((z.el.take p.1).map (·.v))) (fun p => [(0, i64 n), (1, i64 j), (8, cv (.ptr 4 0)), (9, cv (.map 13)), (42, cv (.slc 14 0 z.el.length none false)), (43, i64 z.el.length), (44, i64 p.1)])
    (fun p => [.rows true 2 (ms.map rowMove), rtH, .gone, .rows false 5 [rowIns ⟨0, 0, 0, 0, 0⟩]] ++ machS 4 z u ++ [.mp 0 true p.2.1 p.2.2, .rows false 4 (z.el.map rowEv)]) (fun p => z.el.length - p.1) [2]
    (At.mk' [0, 1, 8, 9, 42, 43, 44] (0, [], 0) ⟨Nat.zero_le _, MSet.nil⟩ ⟨rfl, rfl⟩ rfl rfl (by simp) (by simp) (by decide)) ?_
  rintro ⟨i, es, clk⟩ ⟨hi, hms1⟩
  change i ≤ z.el.length at hi
  change MSet es ((z.el.take i).map (·.v)) at hms1
  refine S_r ?_
  refine brc_intro (fun hlt => ?_) (fun hlt => ?_)
  · have hlt : i < z.el.length := by
      have := of_decide_eq_true hlt
      have : (i : Int) < (z.el.length : Int) := this
      omega
    obtain ⟨e, he⟩ : ∃ e, z.el[i]? = some e := ⟨_, List.getElem?_eq_getElem hlt⟩
    have htk : (z.el.take (i + 1)).map (·.v) = (z.el.take i).map (·.v) ++ [e.v] := by rw [List.take_add_one, he, List.map_append]; rfl
    have hnot : e.v ∉ (z.el.take i).map (·.v) := fun hm => by
      have h1 : ((z.el.take (i + 1)).map (·.v)).Nodup := by
        rw [List.map_take]
        exact hnd.sublist (List.take_sublist _ _)
      rw [htk, List.nodup_append] at h1
      exact h1.2.2 _ hm _ (List.mem_singleton.2 rfl) rfl
    have hput := hms1.put hnot clk
    refine at2 (a := (0 : Int) ≤ (i : Int)) (b := (i : Int) < (z.el.length : Int)) (by omega) (by omega) (rdA (rowEv e) (by simp [he]) ?_)
    refine At.mk' [0, 1, 8, 9, 42, 43, 44] (i + 1, mpPut es [e.v] 1 clk, mpClk es [e.v] clk) ⟨⟨hlt, by show MSet _ ((z.el.take (i + 1)).map (·.v)); rw [htk]; exact hput⟩, by show z.el.length - (i + 1) < z.el.length - i; omega⟩ ⟨?_, rfl⟩ rfl rfl (by simp) (by simp) (by decide)
    rw [wrap_i64 (i + 1) (by omega) (by omega)]
    rfl
  · have hlt : ¬ (i : Int) < (z.el.length : Int) := of_decide_eq_false hlt
    obtain rfl : i = z.el.length := by omega
    have hlen := hms1.len
    rw [List.take_length, List.length_map, hel] at hlen
    change Does Tryd.prog 33 _ _ _
    refine Does.on 15 [4, 5, 6, 7, 8, 9, 10, 11, 12] _ _ (coreCellsL (m := z) (v := u) hw hws ?_)
    change Does Tryd.prog 32 _ _ _
    rw [wnc, wrap_u64 ((n * j : Nat) : Int) (by omega) (by omega)]
    refine Does.on 17 [15, 16] _ _ (equalU (xs := [((n * j : Nat) : Int)]) (ys := [((n * j : Nat) : Int)]) (by simp) (fun _ => ?_) fun h => absurd rfl h)
    show bl _ = _
    rw [wnc, hlen]
    simp

end Go.Mac
