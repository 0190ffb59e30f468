/- What is left in the cells of Tourney in the end. -/
import Derived.Test.YtnhldphlkklfiaaGreatDoorQLeavesC
open Go Go.Proofs Go.Mac
set_option maxRecDepth 100000
namespace Go.Mac

/-- Is a cell of Tourney ever told? -/
def toldT (n c : Nat) : Bool := (wrL c (kindL 5 n) 0).isSome

theorem tour_champ : ((List.range 16).all fun m => !toldT (m + 1) ((m + 1) * levN (m + 1))) = true := by decide +kernel
theorem tour_rest : ((List.range 16).all fun m => (List.range m).all fun c => toldT (m + 1) ((m + 1) * levN (m + 1) + 1 + c)) = true := by decide +kernel
theorem tour_met : ((List.range 16).all fun m => ((List.range ((m + 1) * levN (m + 1))).filter (toldT (m + 1))).length == m) = true := by decide +kernel

theorem tourneyLeaves (n : Int) (_hn : -9223372036854775808 ≤ n ∧ n ≤ 9223372036854775807) (R : Int) (_hR : -9223372036854775808 ≤ R ∧ R ≤ 9223372036854775807) (ms : List MoveZ) :
    Does Tryz.prog 12 [i64 n, i64 R, cv (.slc 0 0 ms.length none false)] [.rows true 2 (ms.map rowMove), rtH] fun v _ _ => v = bl true := by
  refine does Tryz.func12 rfl (by decide) ?_
  change Does Tryz.prog 20 _ _ _
  refine Does.on 2 [1] _ _ (danced ?_)
  refine brc_intro (fun _ => rfl) (fun h => ?_)
  have hms : ms.length ≤ 600 := by
    have := of_decide_eq_false h
    omega
  change Does Tryz.prog 21 _ _ _
  refine Does.alone 2 (ball 0 n R ?_)
  obtain ⟨n, hn, hn16⟩ := pick16b n
  obtain ⟨R, hR, hR6⟩ := pick7 R
  rw [hn, hR]
  have hL := lev_le n
  have hnL := nlev_le hn16
  obtain ⟨A, V, hI, he, hleft⟩ := leftZ_get (k := 5) (by decide) hn16 hR6 ms (by omega)
  have hI : NI n R (PP 5 n) (fun c => wrL c (kindL 5 n) 0) A V _ := hI
  have hV : ∀ c, V c = if toldT n c = true then R else 0 := fun c => net_ended hI he c
  have hchamp : toldT n (n * levN n) = false := by
    have := all_range tour_champ (t := n - 1) (by omega)
    rw [show n - 1 + 1 = n by omega] at this
    simpa using this
  have hrest : ∀ c, c < n - 1 → toldT n (n * levN n + 1 + c) = true := fun c hc => by
    have := all_range tour_rest (t := n - 1) (by omega)
    rw [show n - 1 + 1 = n by omega] at this
    exact all_range this hc
  have hmet : ((List.range (n * levN n)).filter (toldT n)).length = n - 1 := by
    have := all_range tour_met (t := n - 1) (by omega)
    rw [show n - 1 + 1 = n by omega] at this
    simpa using this
  have hget : ∀ c, c < n * levN n + n → (leftZ 5 n R ms)[c]? = some ((V c : Nat) : Int) := fun c hc => by
    rw [hleft, show kindC 5 n = n * levN n + n from rfl, cellsL, List.getElem?_map, List.getElem?_range hc]
    rfl
  have hlen : (leftZ 5 n R ms).length = n * levN n + n := by rw [hleft, cellsL_len]; rfl
  clear hI he hleft
  change Does Tryz.prog 28 _ _ _
  refine Does.on 2 [0] _ _ (left (k := 5) (n := n) (R := R) (ms := ms) (kindOk5 hn16 (by omega)) rfl (by omega) fun _ => ?_)
  rw [hlen]
  generalize leftZ 5 n R ms = w at hget hlen
  refine SS.loop (fun i : Nat => i ≤ levN n) (fun i => [(0, i64 n), (1, i64 R), (7, cv (.slc 2 0 (n * levN n + n) none false)), (8, i64 i)]) (fun _ => [.rows true 2 (ms.map rowMove), rtH, .rows false 1 (w.map rowU)]) (fun i => levN n - i) []
    (At.mk' [0, 1, 7, 8] 0 (Nat.zero_le _) ⟨rfl, rfl⟩ rfl rfl (by simp) (by simp) (by simp)) ?_
  intro i hi
  change i ≤ levN n at hi
  have hiff := lev_lt n (by omega) i (by omega) hn16.1 hi
  refine S_r ?_
  refine brc_intro (fun h1 => ?_) (fun h1 => ?_)
  · have hlt : i < levN n := hiff.1 (of_decide_eq_true h1)
    refine At.mk' [0, 1, 7, 8] (i + 1) ⟨hlt, by omega⟩ ⟨?_, rfl⟩ rfl rfl (by simp) (by simp) (by simp)
    rw [wrap_i64 (i + 1) (by omega) (by omega)]
    rfl
  · have hge : ¬ i < levN n := fun h => (of_decide_eq_false h1) (hiff.2 h)
    obtain rfl : i = levN n := by omega
    have hw : IntKind.i64.wrap ((n : Int) * (levN n : Int)) = ((n * levN n : Nat) : Int) := by
      rw [← Int.natCast_mul, wrap_i64 _ (by omega) (by omega)]
    refine brc_intro (fun h => ?_) (fun _ => ?_)
    · exfalso
      have c1 : (((n * levN n + n : Nat) : Int) != IntKind.i64.wrap (IntKind.i64.wrap ((n : Int) * (levN n : Int)) + (n : Int))) = false := by
        rw [hw, wrap_i64 _ (by omega) (by omega), bne_eq_false_iff_eq]
        omega
      exact absurd (c1.symm.trans h) (by decide)
    · have hg : ∀ c, c < n * levN n + n → (w.map rowU)[0 + ((c : Nat) : Int).toNat]? = some (rowU (V c)) := fun c hc => by
        rw [Nat.zero_add, Int.toNat_natCast, List.getElem?_map, hget c hc]
        rfl
      obtain ⟨met, hmd⟩ : ∃ met : Nat → Nat, ∀ i, met i = ((List.range i).filter fun c => decide (V c ≠ 0)).length := ⟨_, fun _ => rfl⟩
      have hm0 : met 0 = 0 := hmd 0
      have hms : ∀ i, met (i + 1) = met i + if V i ≠ 0 then 1 else 0 := fun i => by
        rw [hmd, hmd, List.range_succ, List.filter_append, List.length_append, List.filter_cons]
        by_cases h : V i = 0 <;> simp [h]
      have hml : ∀ i, met i ≤ i := fun i => by
        rw [hmd]
        exact Nat.le_trans (List.length_filter_le _ _) (by simp)
      refine Or.inl (And.intro (by omega) (And.intro (by omega) ?_))
      refine SS.loop (fun i : Nat => i ≤ n * levN n) (fun i => [(0, i64 n), (1, i64 R), (7, cv (.slc 2 0 (n * levN n + n) none false)), (8, i64 (levN n)), (9, i64 (met i)), (46, cv (.slc 2 0 (n * levN n) none true)), (47, i64 ((n * levN n : Nat) : Int)), (48, i64 i)]) (fun _ => [.rows true 2 (ms.map rowMove), rtH, .rows false 1 (w.map rowU)]) (fun i => n * levN n - i) []
        (At.mk' [0, 1, 7, 8, 9, 46, 47, 48] 0 (Nat.zero_le _) ⟨?_, rfl⟩ rfl rfl (by simp) (by simp) (by simp)) ?_
      · rw [hw, hm0, Int.toNat_natCast, show Nat.blt 0 (n * levN n + n) = true by rw [Nat.blt_eq]; omega]
        rfl
      intro i hi
      change i ≤ n * levN n at hi
      have hmi := hml i
      refine S_r ?_
      refine brc_intro (fun h1 => ?_) (fun h1 => ?_)
      · have hlt : i < n * levN n := by
          have := of_decide_eq_true h1
          have : (i : Int) < ((n * levN n : Nat) : Int) := this
          omega
        have hg := hg i (by omega)
        refine SS.inlR ?_
        refine at2 (a := (0 : Int) ≤ (i : Int)) (b := (i : Int) < ((n * levN n : Nat) : Int)) (by omega) (by omega) ?_
        have hs := hms i
        have hup : IntKind.i64.wrap ((i : Int) + 1) = ((i + 1 : Nat) : Int) := wrap_i64 (i + 1) (by omega) (by omega)
        by_cases hz : V i = 0
        · rw [hz] at hg
          rw [if_neg (by omega)] at hs
          refine rd1 (rowU 0) (.int .u64 0) hg rfl ?_
          refine At.mk' [0, 1, 7, 8, 9, 46, 47, 48] (i + 1) ⟨hlt, by omega⟩ ⟨?_, rfl⟩ rfl rfl (by simp) (by simp) (by simp)
          rw [hup, hs]
          rfl
        · have hVi : V i = R := by
            have := hV i
            split at this
            · exact this
            · exact absurd this hz
          rw [if_pos hz] at hs
          rw [hVi] at hg hz
          refine rd1 (rowU R) (.int .u64 R) hg rfl ?_
          have c2 : ((R : Int) != 0) = true := by
            rw [bne_iff_ne]
            omega
          have c3 : ((R : Int) != IntKind.u64.wrap (R : Int)) = false := by
            rw [wrap_u64 _ (by omega) (by omega), bne_eq_false_iff_eq]
          refine brc_intro (fun _ => ?_) (fun h => absurd (c2.symm.trans h) (by decide))
          refine brc_intro (fun h => absurd (c3.symm.trans h) (by decide)) (fun _ => ?_)
          refine brc_intro (fun _ => ?_) (fun h => absurd (c2.symm.trans h) (by decide))
          refine At.mk' [0, 1, 7, 8, 9, 46, 47, 48] (i + 1) ⟨hlt, by omega⟩ ⟨?_, rfl⟩ rfl rfl (by simp) (by simp) (by simp)
          rw [hup, hs, wrap_i64 ((met i : Int) + 1) (by omega) (by omega)]
          rfl
      · have hge : ¬ (i : Int) < ((n * levN n : Nat) : Int) := of_decide_eq_false h1
        obtain rfl : i = n * levN n := by omega
        have v0 : V (n * levN n) = 0 := by rw [hV, hchamp]; rfl
        have g0 : (w.map rowU)[0 + (IntKind.i64.wrap ((n : Int) * (levN n : Int))).toNat]? = some (rowU 0) := by
          rw [hw, hg _ (by omega), v0]
          rfl
        refine at2 (a := (0 : Int) ≤ IntKind.i64.wrap ((n : Int) * (levN n : Int))) (b := IntKind.i64.wrap ((n : Int) * (levN n : Int)) < ((n * levN n + n : Nat) : Int)) (by omega) (by omega) ?_
        refine rd1 (rowU 0) (.int .u64 0) g0 rfl ?_
        have e1 : IntKind.i64.wrap (IntKind.i64.wrap ((n : Int) * (levN n : Int)) + 1) = ((n * levN n + 1 : Nat) : Int) := by
          rw [hw, wrap_i64 _ (by omega) (by omega)]
          omega
        refine Or.inl (And.intro (by omega) (And.intro (by omega) ?_))
        change Does Tryz.prog 33 _ _ _
        rw [e1, Int.toNat_natCast]
        refine Does.on 3 [2] _ _ (each (xs := w) (o := 0 + (n * levN n + 1)) (n := n * levN n + n - (n * levN n + 1)) (x := R) (by omega) (by omega) (fun i hi => ?_) ?_)
        · have := hget (0 + (n * levN n + 1) + i) (by omega)
          rw [hV, Nat.zero_add, hrest i (by omega)] at this
          rw [Nat.zero_add]
          exact this
        · by_cases hR0 : R = 0
          · subst hR0
            rfl
          · have c2 : ((R : Int) == 0) = false := by
              rw [beq_eq_false_iff_ne]
              omega
            refine brc_intro (fun h => absurd (c2.symm.trans h) (by decide)) (fun _ => ?_)
            have e2 : met (n * levN n) = n - 1 := by
              rw [hmd, ← hmet]
              congr 1
              refine List.filter_congr fun c _ => ?_
              rw [hV]
              by_cases h : toldT n c = true <;> simp [h, hR0]
            have e3 : IntKind.i64.wrap ((n : Int) - 1) = ((n - 1 : Nat) : Int) := by
              rw [wrap_i64 _ (by omega) (by omega)]
              omega
            refine fin ?_
            show ((met (n * levN n) : Int) == IntKind.i64.wrap ((n : Int) - 1)) = true
            rw [e2, e3]
            simp

end Go.Mac
