/- What is left in the cells of Mcs, and of Central, in the end. -/
import Derived.Test.YtnhldphlkklfiaaGreatDoorQLeaves
open Go Go.Proofs Go.Mac
set_option maxRecDepth 100000
namespace Go.Mac

theorem mcs_told : ((List.range 16).all fun m => (List.range (2 * (m + 1))).all fun c => (wrL c (kindL 6 (m + 1)) 0).isSome == decide (c ≠ 0 ∧ c ≠ m + 1)) = true := by decide +kernel

theorem mcsLeaves (n : Int) (_hn : -9223372036854775808 ≤ n ∧ n ≤ 9223372036854775807) (R : Int) (_hR : -9223372036854775808 ≤ R ∧ R ≤ 9223372036854775807) (ms : List MoveZ) :
    Does Tryz.prog 13 [i64 n, i64 R, cv (.slc 0 0 ms.length none false)] [.rows true 2 (ms.map rowMove), rtH] fun v _ _ => v = bl true := by
  refine does Tryz.func13 rfl (by decide) ?_
  change Does Tryz.prog 20 _ _ _
  refine Does.on 2 [1] _ _ (danced ?_)
  refine brc_intro (fun _ => rfl) (fun h => ?_)
  have hms : ms.length ≤ 600 := by
    have := of_decide_eq_false h
    omega
  change Does Tryz.prog 21 _ _ _
  refine Does.alone 2 (ball 0 n R ?_)
  obtain ⟨n, hn, hn16⟩ := pick16b n
  obtain ⟨R, hR, hR6⟩ := pick7 R
  rw [hn, hR]
  obtain ⟨A, V, hI, he, hleft⟩ := leftZ_get (k := 6) (by decide) hn16 hR6 ms (by omega)
  have hI : NI n R (PP 6 n) (fun c => wrL c (kindL 6 n) 0) A V _ := hI
  have hV : ∀ c, c < 2 * n → V c = if c ≠ 0 ∧ c ≠ n then R else 0 := fun c hc => by
    have h1 := all_range mcs_told (t := n - 1) (by omega)
    rw [show n - 1 + 1 = n by omega] at h1
    have h2 := all_range h1 hc
    have h3 : (wrL c (kindL 6 n) 0).isSome = decide (c ≠ 0 ∧ c ≠ n) := by simpa using h2
    rw [net_ended hI he c, h3]
    by_cases h0 : c ≠ 0 ∧ c ≠ n
    · rw [if_pos (by simpa using h0), if_pos h0]
    · rw [if_neg (by simpa using h0), if_neg h0]
  have hget : ∀ c, c < 2 * n → (leftZ 6 n R ms)[c]? = some ((if c ≠ 0 ∧ c ≠ n then R else 0 : Nat) : Int) := fun c hc => by
    rw [hleft, show kindC 6 n = 2 * n from rfl, cellsL, List.getElem?_map, List.getElem?_range hc, ← hV c hc]
    rfl
  have hlen : (leftZ 6 n R ms).length = 2 * n := by rw [hleft, cellsL_len]; rfl
  change Does Tryz.prog 28 _ _ _
  refine Does.on 2 [0] _ _ (left (k := 6) (n := n) (R := R) (ms := ms) (kindOk6 hn16 (by omega)) rfl (by omega) fun _ => ?_)
  rw [hlen]
  generalize leftZ 6 n R ms = w at hget
  refine brc_intro (fun _ => ?_) (fun h => ?_)
  · refine at2 (a := (0 : Int) ≤ 0) (b := (0 : Int) < ((2 * n : Nat) : Int)) (by omega) (by omega) (rd1 (rowU 0) (.int .u64 0) (by have := hget 0 (by omega); simp at this; simp [this]) rfl ?_)
    refine at2 (a := (0 : Int) ≤ (n : Int)) (b := (n : Int) < ((2 * n : Nat) : Int)) (by omega) (by omega) (rd1 (rowU 0) (.int .u64 0) (by have := hget n (by omega); simp at this; simp [this]) rfl ?_)
    refine Or.inl (And.intro (by omega) (And.intro (by omega) (And.intro (by omega) ?_)))
    change Does Tryz.prog 33 _ _ _
    refine Does.on 3 [2] _ _ (each (xs := w) (o := 1) (n := n - 1) (x := R) (by omega) (by omega) (fun i hi => ?_) ?_)
    · have := hget (1 + i) (by omega)
      rw [if_pos (by omega)] at this
      exact this
    · refine Or.inl (And.intro (by rw [wrap_i64 _ (by omega) (by omega)]; omega) (And.intro (by rw [wrap_i64 _ (by omega) (by omega)]; omega) ?_))
      change Does Tryz.prog 33 _ _ _
      rw [wrap_i64 ((n : Int) + 1) (by omega) (by omega), show ((n : Int) + 1).toNat = n + 1 by omega]
      refine Does.on 3 [2] _ _ (each (xs := w) (o := 0 + (n + 1)) (n := 2 * n - (n + 1)) (x := R) (by omega) (by omega) (fun i hi => ?_) ?_)
      · have := hget (0 + (n + 1) + i) (by omega)
        rw [if_pos (by omega)] at this
        exact this
      · rfl
  · exfalso
    have h : (((2 * n : Nat) : Int) == IntKind.i64.wrap (2 * (n : Int))) = false := h
    rw [wrap_i64 _ (by omega) (by omega)] at h
    simp at h

theorem centralLeaves (n : Int) (_hn : -9223372036854775808 ≤ n ∧ n ≤ 9223372036854775807) (R : Int) (_hR : -9223372036854775808 ≤ R ∧ R ≤ 9223372036854775807) (ms : List MoveZ) :
    Does Tryz.prog 6 [i64 n, i64 R, cv (.slc 0 0 ms.length none false)] [.rows true 2 (ms.map rowMove), rtH] fun v _ _ => v = bl true := by
  refine does Tryz.func6 rfl (by decide) ?_
  change Does Tryz.prog 20 _ _ _
  refine Does.on 2 [1] _ _ (danced ?_)
  refine brc_intro (fun _ => rfl) (fun h => ?_)
  have hms : ms.length ≤ 600 := by
    have := of_decide_eq_false h
    omega
  change Does Tryz.prog 21 _ _ _
  refine Does.alone 2 (ball 0 n R ?_)
  obtain ⟨n, hn, hn16⟩ := pick16b n
  obtain ⟨R, hR, hR6⟩ := pick7 R
  rw [hn, hR]
  obtain ⟨A, V, hI, he, hleft⟩ := leftZ_get (k := 1) (by decide) hn16 hR6 ms (by omega)
  obtain ⟨b, hI⟩ : ∃ b, TI n 1 R 1 (PP 1 n) (fun x => if x < n then 0 else 1) (fun _ => n) (fun _ _ => 0) b A V _ := hI
  have hV := tree_ended (tree_one1 hn16) hI he 0 (by decide)
  have hget : leftZ 1 n R ms = [0, (R : Int)] := by
    rw [hleft]
    show [(V 0 : Int), (V 1 : Int)] = _
    have h1 : V 0 = 0 := hV.1
    have h2 : V 1 = R := hV.2
    rw [h1, h2]
    rfl
  change Does Tryz.prog 28 _ _ _
  refine Does.on 2 [0] _ _ (left (k := 1) (n := n) (R := R) (ms := ms) (kindOk1 hn16 (by omega)) rfl (by omega) fun _ => ?_)
  rw [hget]
  refine at2 (a := (0 : Int) ≤ 0) (b := (0 : Int) < ((2 : Nat) : Int)) (by omega) (by omega) (rd1 (rowU 0) (.int .u64 0) rfl rfl ?_)
  refine at2 (a := (0 : Int) ≤ 1) (b := (1 : Int) < ((2 : Nat) : Int)) (by omega) (by omega) (rd1 (rowU R) (.int .u64 R) rfl rfl ?_)
  refine fin ?_
  show ((R : Int) == IntKind.u64.wrap (R : Int)) = true
  rw [wrap_u64 _ (by omega) (by omega)]
  simp

end Go.Mac
