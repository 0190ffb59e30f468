/- Children first: the walk. -/
import Derived.Test.YtnhldphlkklfiaaGreatDoorQUpDown
import Derived.Test.YtnhldphlkklfiaaGreatDoorQStoreW
import Derived.Test.YtnhldphlkklfiaaGreatDoorQDanceL
open Go Go.Proofs Go.Mac
set_option maxRecDepth 100000
namespace Go.Mac

theorem danceUp (k : Int) (_hk : -9223372036854775808 ≤ k ∧ k ≤ 9223372036854775807) (n : Int) (_hn : -9223372036854775808 ≤ n ∧ n ≤ 9223372036854775807) (R : Int) (_hR : -9223372036854775808 ≤ R ∧ R ≤ 9223372036854775807) (ms : List MoveZ) :
    Does Tryz.prog 3 [i64 k, i64 n, i64 R, cv (.slc 0 0 ms.length none false)] [.rows true 2 (ms.map rowMove), rtH] fun v _ _ => v = bl true := by
  refine does Tryz.func3 rfl (by decide) ?_
  change Does Tryz.prog 20 _ _ _
  refine Does.on 2 [1] _ _ (danced ?_)
  refine brc_intro (fun _ => rfl) (fun h => ?_)
  have hms : ms.length ≤ 500 := by
    have := of_decide_eq_false h
    omega
  change Does Tryz.prog 21 _ _ _
  refine Does.alone 2 (ball 0 n R ?_)
  obtain ⟨n, hn, hn16⟩ := pick16b n
  obtain ⟨R, hR, hR6⟩ := pick7 R
  rw [hn, hR]
  change Does Tryz.prog 22 _ _ _
  refine Does.alone 4 (pick k 2 (by decide) ?_)
  obtain ⟨p, hp, hp2⟩ : ∃ p : Nat, pickZ k 2 = p ∧ p < 2 := by
    have := pickZ_lt k (n := 2) (by decide)
    exact ⟨(pickZ k 2).toNat, by omega, by omega⟩
  rw [hp]
  clear hp
  obtain ⟨kk, hkk⟩ : ∃ kk, (if p = 0 then 3 else 6) = kk := ⟨_, rfl⟩
  obtain ⟨fan, hfan⟩ : ∃ fan, (if p = 0 then 2 else 4) = fan := ⟨_, rfl⟩
  have hkr : [rowZ 3, rowZ 6][0 + Int.toNat (p : Int)]? = some (rowZ (kk : Int)) := by
    have : p = 0 ∨ p = 1 := by omega
    rcases this with rfl | rfl <;> subst hkk <;> rfl
  have hfr : [rowZ 2, rowZ 4][0 + Int.toNat (p : Int)]? = some (rowZ (fan : Int)) := by
    have : p = 0 ∨ p = 1 := by omega
    rcases this with rfl | rfl <;> subst hfan <;> rfl
  have hk6 : 1 ≤ kk ∧ kk ≤ 6 := by
    rw [← hkk]
    split <;> omega
  have hf4 : 1 ≤ fan ∧ fan ≤ 4 := by
    rw [← hfan]
    split <;> omega
  obtain ⟨hlen, hord⟩ := dance_up hn16 hR6 (ms.map (pickM n)) (by rw [List.length_map]; omega) kk fan hkk.symm hfan.symm
  obtain ⟨z, hz⟩ : ∃ z, movesZ (danceM kk n R) (ms.map (pickM n)) = z := ⟨_, rfl⟩
  rw [hz] at hlen hord
  have hko := kindAll (k := kk) (R := R) hk6 hn16 (show R ≤ 20 by omega)
  clear hkk hfan
  refine at2 (a := (0 : Int) ≤ (p : Int)) (b := (p : Int) < 2) (by omega) (by omega) (rd1 (rowZ kk) (.int .i64 kk) hkr rfl ?_)
  change Does Tryz.prog 23 _ _ _
  refine Does.on 4 [0] _ _ (floor (k := kk) (n := n) (R := R) (ms := ms) (z := z) hko rfl (by omega) hz fun v hv hw => ?_)
  change Does Tryz.prog 24 _ _ _
  refine Does.on 13 [4, 5, 6, 7, 8, 9, 10, 11, 12] _ _ (fairFinish (m := z) (v := v) hw hv fun v1 c hv1 hw1 => ?_)
  generalize finish z = z1 at hlen hord hw1
  refine SS.loop (fun i : Nat => 1 ≤ i ∧ i ≤ max 1 n) (fun i => [(0, i64 p), (1, i64 n), (2, i64 R), (10, cv (.slc 3 0 2 none true)), (11, cv (.ptr 4 0)), (12, i64 i)])
    (fun _ => [.rows true 2 (ms.map rowMove), rtH, .rows false 1 [rowZ 3, rowZ 6], .rows false 1 [rowZ 2, rowZ 4]] ++ machS 4 z1 v1) (fun i => n - i) [10, 11, 12]
    (At.mk' [0, 1, 2, 10, 11, 12] 1 ⟨by decide, by omega⟩ ⟨rfl, rfl⟩ rfl rfl (by simp) (by simp) (by decide)) ?_
  rintro i ⟨hi1, hi⟩
  refine S_r ?_
  refine brc_intro (fun hlt => ?_) (fun hlt => ?_)
  · have hlt : i < n := by
      have := of_decide_eq_true hlt
      have : (i : Int) < (n : Int) := this
      omega
    have l1 := hlen i hi1 hlt
    refine SS.inlR ?_
    change Does Tryz.prog 25 _ _ _
    refine Does.on 13 [4, 5, 6, 7, 8, 9, 10, 11, 12] _ _ (stores (m := z1) (v := v1) (c := i) hw1 ?_)
    have hoi := hord i
    generalize stN i z1.al = lo at l1 hoi
    rw [l1]
    refine brc_intro (fun h9 => ?_) (fun _ => ?_)
    · have h9 : ((R : Int) != (R : Int)) = true := h9
      simp at h9
    refine at2 (a := (0 : Int) ≤ (p : Int)) (b := (p : Int) < 2) (by omega) (by omega) (rd1 (rowZ fan) (.int .i64 fan) hfr rfl ?_)
    obtain ⟨q, hq⟩ : ∃ q, fan * i = q := ⟨_, rfl⟩
    have hq64 : q ≤ 4 * 16 := by
      rw [← hq]
      exact Nat.mul_le_mul hf4.2 (by omega)
    have hqI : (fan : Int) * (i : Int) = (q : Int) := by rw [← hq]; exact (Int.natCast_mul ..).symm
    have w1 : IntKind.i64.wrap (IntKind.i64.wrap ((fan : Int) * (i : Int)) + 1) = ((q + 1 : Nat) : Int) := by
      rw [hqI, wrap_i64 (q : Int) (by omega) (by omega), wrap_i64 _ (by omega) (by omega)]
      rfl
    have w2 : IntKind.i64.wrap (IntKind.i64.wrap ((fan : Int) * (i : Int)) + (fan : Int)) = ((q + fan : Nat) : Int) := by
      rw [hqI, wrap_i64 (q : Int) (by omega) (by omega), wrap_i64 _ (by omega) (by omega)]
      rfl
    refine SS.loop (fun d : Nat => q + 1 ≤ d ∧ d ≤ q + fan + 1) (fun d => [(0, i64 p), (1, i64 n), (2, i64 R), (10, cv (.slc 3 0 2 none true)), (11, cv (.ptr 4 0)), (12, i64 i), (13, cv (.slc 13 0 R none false)), (14, i64 d)])
      (fun _ => [.rows true 2 (ms.map rowMove), rtH, .rows false 1 [rowZ 3, rowZ 6], .rows false 1 [rowZ 2, rowZ 4]] ++ machS 4 z1 v1 ++ [.rows false 1 (lo.map rowZ)]) (fun d => q + fan + 1 - d) [10, 11, 12]
      (At.mk' [0, 1, 2, 10, 11, 12, 13, 14] (q + 1) ⟨Nat.le_refl _, by omega⟩ ⟨?_, rfl⟩ rfl rfl (by simp) (by simp) (by decide)) ?_
    · rw [← w1]
      rfl
    rintro d ⟨hd1, hd2⟩
    refine S_r ?_
    refine SS.drawR follows (by decide) ?_
    refine at2 (a := (0 : Int) ≤ (p : Int)) (b := (p : Int) < 2) (by omega) (by omega) (rd1 (rowZ fan) (.int .i64 fan) hfr rfl ?_)
    refine at2 (a := (0 : Int) ≤ (p : Int)) (b := (p : Int) < 2) (by omega) (by omega) (rd1 (rowZ fan) (.int .i64 fan) hfr rfl ?_)
    refine brc_intro (fun hle => ?_) (fun hle => ?_)
    · have hle : d ≤ q + fan := by
        have hle : (d : Int) ≤ IntKind.i64.wrap (IntKind.i64.wrap ((fan : Int) * (i : Int)) + (fan : Int)) := of_decide_eq_true hle
        rw [w2] at hle
        omega
      refine brc_intro (fun hdn => ?_) (fun hdn => ?_)
      · have hdn : d < n := by
          have hdn : (d : Int) < (n : Int) := of_decide_eq_true hdn
          omega
        have l2 := hlen d (by omega) hdn
        have ho := hoi d ⟨hi1, hlt, by rw [hq]; exact hd1, by rw [hq]; exact hle, hdn⟩
        refine SS.inlR ?_
        change Does Tryz.prog 25 _ _ _
        refine Does.on 14 [4, 5, 6, 7, 8, 9, 10, 11, 12] _ _ (stores (m := z1) (v := v1) (c := d) hw1 ?_)
        generalize stN d z1.al = hh at l2 ho
        rw [l2]
        refine brc_intro (fun h9 => ?_) (fun _ => ?_)
        · have h9 : ((R : Int) != (R : Int)) = true := h9
          simp at h9
        refine SS.loop (fun r : Nat => r ≤ R) (fun r => [(0, i64 p), (1, i64 n), (2, i64 R), (10, cv (.slc 3 0 2 none true)), (11, cv (.ptr 4 0)), (12, i64 i), (13, cv (.slc 13 0 R none false)), (14, i64 d), (15, cv (.slc 14 0 R none false)), (92, i64 R), (93, i64 r)])
          (fun _ => [.rows true 2 (ms.map rowMove), rtH, .rows false 1 [rowZ 3, rowZ 6], .rows false 1 [rowZ 2, rowZ 4]] ++ machS 4 z1 v1 ++ [.rows false 1 (lo.map rowZ), .rows false 1 (hh.map rowZ)]) (fun r => R - r) [10, 11, 12]
          (At.mk' [0, 1, 2, 10, 11, 12, 13, 14, 15, 92, 93] 0 (Nat.zero_le _) ⟨rfl, rfl⟩ rfl rfl (by simp) (by simp) (by decide)) ?_
        intro r hr
        change r ≤ R at hr
        refine S_r ?_
        refine brc_intro (fun hlt3 => ?_) (fun hlt3 => ?_)
        · have hlt3 : r < R := by
            have := of_decide_eq_true hlt3
            have : (r : Int) < (R : Int) := this
            omega
          obtain ⟨x, hx⟩ : ∃ x, lo[r]? = some x := ⟨_, List.getElem?_eq_getElem (by omega)⟩
          obtain ⟨y, hy⟩ : ∃ y, hh[r]? = some y := ⟨_, List.getElem?_eq_getElem (by omega)⟩
          have hxy := ho r x y hx hy
          refine SS.inlR ?_
          refine SS.drawR follows (by decide) ?_
          refine at2 (a := (0 : Int) ≤ (r : Int)) (b := (r : Int) < (R : Int)) (by omega) (by omega) (rd1 (rowZ y) (.int .i64 y) (by simp [hy]) rfl ?_)
          refine at2 (a := (0 : Int) ≤ (r : Int)) (b := (r : Int) < (R : Int)) (by omega) (by omega) (rd1 (rowZ x) (.int .i64 x) (by simp [hx]) rfl ?_)
          refine brc_intro (fun h9 => ?_) (fun _ => ?_)
          · have h9 : y ≥ x := of_decide_eq_true h9
            omega
          refine At.mk' [0, 1, 2, 10, 11, 12, 13, 14, 15, 92, 93] (r + 1) ⟨hlt3, by omega⟩ ⟨?_, rfl⟩ rfl rfl (by simp) (by simp) (by decide)
          rw [wrap_i64 (r + 1) (by omega) (by omega)]
          rfl
        · refine At.mk' [0, 1, 2, 10, 11, 12, 13, 14] (d + 1) ⟨⟨by omega, by omega⟩, by omega⟩ ⟨?_, rfl⟩ rfl rfl (by simp) (by simp) (by decide)
          rw [wrap_i64 (d + 1) (by omega) (by omega)]
          rfl
      · refine At.mk' [0, 1, 2, 10, 11, 12] (i + 1) ⟨⟨by omega, by omega⟩, by omega⟩ ⟨?_, rfl⟩ rfl rfl (by simp) (by simp) (by decide)
        rw [wrap_i64 (i + 1) (by omega) (by omega)]
        rfl
    · refine At.mk' [0, 1, 2, 10, 11, 12] (i + 1) ⟨⟨by omega, by omega⟩, by omega⟩ ⟨?_, rfl⟩ rfl rfl (by simp) (by simp) (by decide)
      rw [wrap_i64 (i + 1) (by omega) (by omega)]
      rfl
  · exact fin rfl

end Go.Mac
