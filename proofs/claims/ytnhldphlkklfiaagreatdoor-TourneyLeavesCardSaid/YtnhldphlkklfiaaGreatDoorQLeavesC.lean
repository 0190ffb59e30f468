/- What is left in the cells of Spread in the end. -/
import Derived.Test.YtnhldphlkklfiaaGreatDoorQLeaves
import Derived.Test.YtnhldphlkklfiaaGreatDoorQDanceC2
open Go Go.Proofs Go.Mac
set_option maxRecDepth 100000
namespace Go.Mac

theorem spread_told : ((List.range 16).all fun m => (List.range ((m + 1) * levN (m + 1))).all fun c => (wrL c (kindL 4 (m + 1)) 0).isSome) = true := by decide +kernel

theorem lev_lt : ∀ n, n < 17 → ∀ i, i < 5 → 1 ≤ n → i ≤ levN n → (IntKind.i64.wrap (1 * 2 ^ (min (((i : Nat) : Int)).toNat (IntKind.bits .i64))) < (n : Int) ↔ i < levN n) := by decide +kernel

theorem spreadLeaves (n : Int) (_hn : -9223372036854775808 ≤ n ∧ n ≤ 9223372036854775807) (R : Int) (_hR : -9223372036854775808 ≤ R ∧ R ≤ 9223372036854775807) (ms : List MoveZ) :
    Does Tryz.prog 11 [i64 n, i64 R, cv (.slc 0 0 ms.length none false)] [.rows true 2 (ms.map rowMove), rtH] fun v _ _ => v = bl true := by
  refine does Tryz.func11 rfl (by decide) ?_
  change Does Tryz.prog 20 _ _ _
  refine Does.on 2 [1] _ _ (danced ?_)
  refine brc_intro (fun _ => rfl) (fun h => ?_)
  have hms : ms.length ≤ 600 := by
    have := of_decide_eq_false h
    omega
  change Does Tryz.prog 21 _ _ _
  refine Does.alone 2 (ball 0 n R ?_)
  obtain ⟨n, hn, hn16⟩ := pick16b n
  obtain ⟨R, hR, hR6⟩ := pick7 R
  rw [hn, hR]
  have hL := lev_le n
  have hnL := nlev_le hn16
  obtain ⟨A, V, hI, he, hleft⟩ := leftZ_get (k := 4) (by decide) hn16 hR6 ms (by omega)
  have hI : NI n R (PP 4 n) (fun c => wrL c (kindL 4 n) 0) A V _ := hI
  have hV : ∀ c, c < n * levN n → V c = R := fun c hc => by
    have h1 := all_range spread_told (t := n - 1) (by omega)
    rw [show n - 1 + 1 = n by omega] at h1
    have h2 : (wrL c (kindL 4 n) 0).isSome = true := all_range h1 hc
    rw [net_ended hI he c, if_pos h2]
  have hget : ∀ c, c < n * levN n → (leftZ 4 n R ms)[c]? = some (R : Int) := fun c hc => by
    rw [hleft, show kindC 4 n = n * levN n from rfl, cellsL, List.getElem?_map, List.getElem?_range hc, ← hV c hc]
    rfl
  have hlen : (leftZ 4 n R ms).length = n * levN n := by rw [hleft, cellsL_len]; rfl
  change Does Tryz.prog 28 _ _ _
  refine Does.on 2 [0] _ _ (left (k := 4) (n := n) (R := R) (ms := ms) (kindOk4 hn16 (by omega)) rfl (by omega) fun _ => ?_)
  rw [hlen]
  generalize leftZ 4 n R ms = w at hget hlen
  refine SS.loop (fun i : Nat => i ≤ levN n) (fun i => [(0, i64 n), (1, i64 R), (7, cv (.slc 2 0 (n * levN n) none false)), (8, i64 i)]) (fun _ => [.rows true 2 (ms.map rowMove), rtH, .rows false 1 (w.map rowU)]) (fun i => levN n - i) []
    (At.mk' [0, 1, 7, 8] 0 (Nat.zero_le _) ⟨rfl, rfl⟩ rfl rfl (by simp) (by simp) (by simp)) ?_
  intro i hi
  change i ≤ levN n at hi
  have hiff := lev_lt n (by omega) i (by omega) hn16.1 hi
  refine S_r ?_
  refine brc_intro (fun h1 => ?_) (fun h1 => ?_)
  · have hlt : i < levN n := hiff.1 (of_decide_eq_true h1)
    refine At.mk' [0, 1, 7, 8] (i + 1) ⟨hlt, by omega⟩ ⟨?_, rfl⟩ rfl rfl (by simp) (by simp) (by simp)
    rw [wrap_i64 (i + 1) (by omega) (by omega)]
    rfl
  · have hge : ¬ i < levN n := fun h => (of_decide_eq_false h1) (hiff.2 h)
    obtain rfl : i = levN n := by omega
    have hw : IntKind.i64.wrap ((n : Int) * (levN n : Int)) = ((n * levN n : Nat) : Int) := by
      rw [← Int.natCast_mul, wrap_i64 _ (by omega) (by omega)]
    refine brc_intro (fun _ => ?_) (fun h => ?_)
    · change Does Tryz.prog 33 _ _ _
      refine Does.on 3 [2] _ _ (each (xs := w) (o := 0) (n := n * levN n) (x := R) (by omega) (by omega) (fun i hi => ?_) ?_)
      · rw [Nat.zero_add]
        exact hget i hi
      · rfl
    · exfalso
      have h : (((n * levN n : Nat) : Int) == IntKind.i64.wrap ((n : Int) * (levN n : Int))) = false := h
      rw [hw] at h
      simp at h

end Go.Mac
