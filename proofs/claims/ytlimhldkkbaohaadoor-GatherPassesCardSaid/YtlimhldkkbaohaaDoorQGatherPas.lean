/- Whoever only passes is told phase behind phase, nobody ahead of all, and all end: GatherPasses. -/
import Derived.Test.YtlimhldkkbaohaaDoorGPaA
import Derived.Test.YtlimhldkkbaohaaDoorQGathered
import Derived.Test.YtlimhldkkbaohaaDoorQJudged
import Derived.Test.YtlimhldkkbaohaaDoorQDrawS
open Go Go.Proofs Go.Mac
set_option maxRecDepth 100000
namespace Go.Mac
attribute [local irreducible] drawnR

abbrev pasT : List Int := [0, 2147483647, 2147483645]

set_option maxHeartbeats 8000000 in
theorem gatherPasses (a : Int) (_ha : -9223372036854775808 ≤ a ∧ a ≤ 9223372036854775807) (b : Int) (_hb : -9223372036854775808 ≤ b ∧ b ≤ 9223372036854775807) (c : Int) (_hc : -9223372036854775808 ≤ c ∧ c ≤ 9223372036854775807) (ms : List MoveZ) :
    Does Tryd.prog 11 [i64 a, i64 b, i64 c, cv (.slc 0 0 ms.length none false)] [.rows true 2 (ms.map rowMove), rtH] fun v _ _ => v = bl true := by
  refine does Tryd.func11 rfl (by decide) ?_
  change Does Tryd.prog 16 _ _ _
  refine Does.alone 2 (gathered ?_)
  change Does Tryd.prog 44 _ _ _
  refine Does.on 2 [1] _ _ (judged ?_)
  refine brc_intro (fun _ => rfl) (fun h => ?_)
  have hms : ms.length ≤ 500 := by
    have := of_decide_eq_false h
    omega
  have hpa := pickZ_lt a (n := 8) (by decide)
  have hpb := pickZ_lt b (n := 6) (by decide)
  have hpc := pickZ_lt c (n := 3) (by decide)
  change Does Tryd.prog 18 _ _ _
  refine Does.alone 2 (pick a 8 (by decide) ?_)
  change Does Tryd.prog 18 _ _ _
  refine Does.alone 2 (pick b 6 (by decide) ?_)
  obtain ⟨n, hn⟩ : ∃ n : Nat, 1 + pickZ a 8 = n := ⟨(1 + pickZ a 8).toNat, by omega⟩
  obtain ⟨R, hR⟩ : ∃ R : Nat, pickZ b 6 = R := ⟨(pickZ b 6).toNat, by omega⟩
  have hn8 : 1 ≤ n ∧ n ≤ 8 := by omega
  have hR5 : R ≤ 5 := by omega
  have hwn : IntKind.i64.wrap (1 + pickZ a 8) = n := by rw [hn]; exact wrap_i64 _ (by omega) (by omega)
  rw [hwn, hR]
  change Does Tryd.prog 18 _ _ _
  refine Does.alone 3 (pick c 3 (by decide) ?_)
  obtain ⟨P0, hP⟩ : ∃ P0 : Nat, pasT[(pickZ c 3).toNat]? = some (P0 : Int) := by
    rcases (show (pickZ c 3).toNat = 0 ∨ (pickZ c 3).toNat = 1 ∨ (pickZ c 3).toNat = 2 by omega) with h | h | h <;> rw [h]
    · exact ⟨0, rfl⟩
    · exact ⟨2147483647, rfl⟩
    · exact ⟨2147483645, rfl⟩
  have hP0 : P0 < 2147483648 := by
    have h := List.mem_of_getElem? hP
    simp only [List.mem_cons, List.not_mem_nil, or_false] at h
    omega
  have hPr : (pasT.map rowZ)[0 + Int.toNat (pickZ c 3)]? = some (rowZ P0) := by rw [Nat.zero_add, List.getElem?_map, hP]; rfl
  generalize pickZ c 3 = pc at hpc hPr
  refine at2 (a := (0 : Int) ≤ pc) (b := pc < ((3 : Nat) : Int)) hpc.1 hpc.2 (rd1 (rowZ P0) (.int .i64 P0) hPr rfl ?_)
  change Does Tryd.prog 45 _ _ _
  refine Does.alone 4 (pkWord false P0 n n (fun h => ?_) fun _ => ?_)
  · exfalso
    have := of_decide_eq_false h
    omega
  have hwd : pkWordZ false P0 n n = wd P0 n n := by
    rw [wd, Nat.mod_eq_of_lt hP0]
    simp [pkWordZ]
  rw [hwd]
  refine SS.nil2 12 2 rfl ?_
  have hrep : (List.replicate R (rowCallZ ⟨9, 0⟩)).length = R := List.length_replicate ..
  refine SS.loop (fun i : Nat => i ≤ n) (fun i => [(0, i64 n), (1, i64 R), (3, cv (.slc 0 0 ms.length none false)), (9, cv (.ptr 3 0)), (10, u64 (wd P0 n n)), (11, cv .niliface), (12, cv (.slc 4 0 i none false)), (53, i64 n), (54, i64 i)])
    (fun i => [.rows true 2 (ms.map rowMove), rtH, .rows false 1 (pasT.map rowZ), .one [.f (.bool false), .f (.int .i64 P0), .f (.int .i64 n), .f (.int .i64 n)], .rows2 false 2 (List.replicate i (List.replicate R (rowCallZ ⟨9, 0⟩)))]) (fun i => n - i) [4, 5, 6, 7]
    (At.mk' [0, 1, 3, 9, 10, 11, 12, 53, 54] 0 (Nat.zero_le _) ⟨rfl, rfl⟩ rfl rfl (by simp) (by simp) (by simp)) ?_
  intro i hi
  change i ≤ n at hi
  refine S_r ?_
  refine brc_intro (fun hlt => ?_) (fun hlt => ?_)
  · have hlt : i < n := by
      have := of_decide_eq_true hlt
      have : (i : Int) < (n : Int) := this
      omega
    change Does Tryd.prog 46 _ _ _
    refine Does.on 6 [5] _ _ (repeatC (n := R) (p := rowCallZ ⟨9, 0⟩) (by omega) ?_)
    refine And.intro (by simp) (And.intro rfl (And.intro (by simp) (at2 (by show (i + 1) * 24 ≤ _; omega) (by omega) ?_)))
    refine At.mk' [0, 1, 3, 9, 10, 11, 12, 53, 54] (i + 1) ⟨hlt, by show n - (i + 1) < n - i; omega⟩ ⟨?_, rfl⟩ ?_ rfl (by simp) (by simp) (by decide)
    · rw [wrap_i64 (i + 1) (by omega) (by omega)]
      rfl
    · rw [List.replicate_succ']
      rfl
  have hlt : ¬ (i : Int) < (n : Int) := of_decide_eq_false hlt
  obtain rfl : n = i := by omega
  have hmap : List.replicate n (List.replicate R (rowCallZ ⟨9, 0⟩)) = (List.replicate n (pasL R)).map fun l => l.map rowCallZ := by rw [List.map_replicate, List.map_replicate]
  rw [hmap]
  have hI := pa_moves (P0 := P0) hn8 hR5 ms
  have hone : ∀ x ∈ List.replicate n (pasL R), x = pasL R := fun x hx => (List.mem_replicate.1 hx).2
  have hlen : (List.replicate n (pasL R)).length = n := List.length_replicate ..
  have hwb : 0 ≤ wd P0 n n ∧ wd P0 n n < 18446744073709551616 := by
    have := wd_rw (φ := P0) (n := n) (κ := n) (by omega) (Nat.le_refl _)
    exact ⟨this.1, this.rv.2.1⟩
  generalize List.replicate n (pasL R) = calls at hI hone hlen ⊢
  obtain ⟨z, hz⟩ : ∃ z, movesZ (mz0 (calls.map gathP) [wd P0 n n]) ms = z := ⟨_, rfl⟩
  rw [hz] at hI
  generalize wd P0 n n = w at hwb hz ⊢
  change Does Tryd.prog 35 _ _ _
  refine Does.on 6 [4, 5, 0] _ _ (made (ls := calls) (ps := calls.map gathP) (ws := [w]) (ms := ms) (f := 36) (n := n) (nc := 1) (ro := false) (ro2 := false) (ro3 := true) hlen (by rw [List.length_map]; exact hlen) rfl rfl (by omega) (by decide) (by omega) (fun p hp => ?_) (fun v hv => by obtain rfl := List.mem_singleton.1 hv; exact hwb) (hz := hz) (fun i l p hl hp K' hK' => ?_) fun v hv hw => ?_)
  · obtain ⟨l', hl', rfl⟩ := List.mem_map.1 hp
    rw [hone l' hl']
    exact pass_right hR5
  · obtain rfl : gathP l = p := by
      rw [List.getElem?_map, hl] at hp
      exact Option.some.inj hp
    obtain rfl := hone l (List.mem_of_getElem? hl)
    exact gatherCode' i i _ hl (by rw [List.length_replicate]; omega) pass_fit hK'
  clear hz
  change Does Tryd.prog 37 _ _ _
  refine Does.on 15 [6, 7, 8, 9, 10, 11, 12, 13, 14] _ _ (fairFinish (m := z) (v := v) hw hv fun v1 _ hv1 hw1 => ?_)
  obtain ⟨ρ, gs, u, hJ, f1, f2, f3⟩ := pa_fin hI (by omega)
  generalize finish z = z1 at hw1 hJ f1 f2
  clear hw hI hv
  change Does Tryd.prog 40 _ _ _
  refine Does.on 15 [6, 7, 8, 9, 10, 11, 12, 13, 14] _ _ (coreEnds (m := z1) (v := v1) hw1 ?_)
  rw [f1, f2]
  refine And.intro (show (0 : Int) ≤ (n : Int) by omega) (And.intro (Int.le_refl (n : Int)) (And.intro (show ((8 : Nat) : Int) * (n : Int) ≤ 281474976710656 by omega) (And.intro (show (n : Int) ≤ 9223372036854775807 by omega) ?_)))
  have hk := hw1.k
  have hnA := hw1.al
  have hnE := hw1.el
  change Does Tryd.prog 47 _ _ _
  refine Does.on 16 [6, 7, 8, 9, 10, 11, 12, 13, 14] _ _ (coreActs (m := z1) (v := v1) (by omega) ?_)
  change Does Tryd.prog 48 _ _ _
  refine Does.on 17 [6, 7, 8, 9, 10, 11, 12, 13, 14] _ _ (coreEvents (m := z1) (v := v1) (by omega) ?_)
  refine SS.nil 16 4 (by decide) rfl ?_
  have hrd0 : (rdL n (z1.el.take 0)).map rowZ = List.replicate (n : Int).toNat [FC.int .i64 0] := by rw [List.take_zero, rdL_nil, noughts, List.map_replicate, Int.toNat_natCast]
  refine SS.loop (fun s : Nat × Nat × Nat × Bool × Bool => s.1 ≤ z1.k ∧ s.2.1 ≤ z1.al.length ∧ s.2.2.1 ≤ z1.el.length ∧ (∀ a ∈ z1.al.take s.2.1, a.w ≤ (s.1 : Int)) ∧ (∀ a ∈ z1.al.drop s.2.1, (s.1 : Int) < a.w) ∧ (∀ e ∈ z1.el.take s.2.2.1, e.w ≤ (s.1 : Int)) ∧ (∀ e ∈ z1.el.drop s.2.2.1, (s.1 : Int) < e.w))
    (fun s => [(0, i64 n), (1, i64 R), (9, cv (.ptr 3 0)), (13, cv (.ptr 6 0)), (14, bl true), (15, bl false), (16, cv (.slc 18 0 (sdK z1.al z1.el s.1).length none false)), (17, cv (.slc 15 0 n none true)), (18, cv (.slc 16 s.2.1 (z1.al.length - s.2.1) none s.2.2.2.1)), (19, cv (.slc 17 s.2.2.1 (z1.el.length - s.2.2.1) none s.2.2.2.2)), (20, i64 (s.1 + 1 : Nat))])
    (fun s => [.rows true 2 (ms.map rowMove), rtH, .rows false 1 (pasT.map rowZ), .one [.f (.bool false), .f (.int .i64 P0), .f (.int .i64 n), .f (.int .i64 n)], callsH false calls, .rows false 1 ([w].map rowU)] ++ machS 6 z1 v1 ++ [.rows false 1 ((rdL n (z1.el.take s.2.2.1)).map rowZ), .rows false 6 (z1.al.map rowAct), .rows false 4 (z1.el.map rowEv), .rows false 4 ((sdK z1.al z1.el s.1).map rowEv)]) (fun s => z1.k - s.1) [12, 13, 14, 4, 5, 6, 7, 18]
    (At.mk' [0, 1, 9, 13, 14, 15, 16, 17, 18, 19, 20] (0, 0, 0, false, false) ⟨Nat.zero_le _, Nat.zero_le _, Nat.zero_le _, (fun a h => by rw [List.take_zero] at h; cases h), (fun a h => by have := (hJ.at' a (List.mem_of_mem_drop h)).1; show ((0 : Nat) : Int) < a.w; omega), (fun a h => by rw [List.take_zero] at h; cases h), (fun e h => by obtain ⟨i, hi⟩ := List.mem_iff_getElem?.1 (List.mem_of_mem_drop h); have := (hJ.ev i e hi).1; show ((0 : Nat) : Int) < e.w; omega)⟩ ⟨rfl, rfl⟩ ?_ rfl (by simp) (by simp) (by decide)) ?_
  · dsimp only
    rw [hrd0]
    rfl
  rintro ⟨s, i, j, b1, b2⟩ ⟨hs, hi, hj, ha1, ha2, he1, he2⟩
  dsimp only at hs hi hj ha1 ha2 he1 he2
  refine S_r ?_
  change Does Tryd.prog 49 _ _ _
  refine Does.on 19 [6, 7, 8, 9, 10, 11, 12, 13, 14] _ _ (coreSteps (m := z1) (v := v1) ?_)
  refine brc_intro (fun hlt => ?_) (fun hlt => ?_)
  · have hlt : s + 1 ≤ z1.k := by
      have := of_decide_eq_true hlt
      have : ((s + 1 : Nat) : Int) ≤ (z1.k : Int) := this
      omega
    refine SS.loop (fun s' : Nat × Bool => s'.1 ≤ z1.al.length ∧ (∀ a ∈ z1.al.take s'.1, a.w ≤ ((s + 1 : Nat) : Int)) ∧ (∀ a ∈ z1.al.drop s'.1, (s : Int) < a.w))
      (fun s' => [(0, i64 n), (1, i64 R), (9, cv (.ptr 3 0)), (13, cv (.ptr 6 0)), (14, bl true), (15, bl false), (16, cv (.slc 18 0 (sdK z1.al z1.el s ++ actP z1.al z1.el s s'.1).length none false)), (17, cv (.slc 15 0 n none true)), (18, cv (.slc 16 s'.1 (z1.al.length - s'.1) none s'.2)), (19, cv (.slc 17 j (z1.el.length - j) none b2)), (20, i64 (s + 1 : Nat))])
      (fun s' => [.rows true 2 (ms.map rowMove), rtH, .rows false 1 (pasT.map rowZ), .one [.f (.bool false), .f (.int .i64 P0), .f (.int .i64 n), .f (.int .i64 n)], callsH false calls, .rows false 1 ([w].map rowU)] ++ machS 6 z1 v1 ++ [.rows false 1 ((rdL n (z1.el.take j)).map rowZ), .rows false 6 (z1.al.map rowAct), .rows false 4 (z1.el.map rowEv), .rows false 4 ((sdK z1.al z1.el s ++ actP z1.al z1.el s s'.1).map rowEv)]) (fun s' => z1.al.length - s'.1) [12, 13, 14, 4, 5, 6, 7, 18]
      (At.mk' [0, 1, 9, 13, 14, 15, 16, 17, 18, 19, 20] (i, b1) ⟨hi, fun a h => by have := ha1 a h; omega, ha2⟩ ⟨?_, rfl⟩ ?_ rfl (by simp) (by simp) (by decide)) ?_
    · rw [actP_none (fun a h => by have := ha1 a h; omega), List.append_nil]
    · rw [actP_none (fun a h => by have := ha1 a h; omega), List.append_nil]
      rfl
    rintro ⟨i, b1⟩ ⟨hi, ha1, ha2⟩
    dsimp only at hi ha1 ha2
    refine S_r ?_
    -- behind the acts
    have after : (∀ a ∈ z1.al.drop i, ((s + 1 : Nat) : Int) < a.w) → sdK z1.al z1.el s ++ actP z1.al z1.el s i = sdK z1.al z1.el s ++ (z1.al.filter fun a => decide (a.w = ((s + 1 : Nat) : Int)) && chA a).map (sdA z1.el s) := fun h => by rw [actP_all h]
    refine brc_intro (fun hl0 => ?_) (fun hl0 => ?_)
    · have hil : i < z1.al.length := by
        have h := of_decide_eq_true hl0
        have h : ((z1.al.length - i : Nat) : Int) > 0 := h
        omega
      obtain ⟨a, ha⟩ : ∃ a, z1.al[i]? = some a := ⟨_, List.getElem?_eq_getElem hil⟩
      have hdr : z1.al.drop i = a :: z1.al.drop (i + 1) := by
        obtain ⟨_, haa⟩ := List.getElem?_eq_some_iff.1 ha
        rw [List.drop_eq_getElem_cons hil, haa]
      have haw : (s : Int) < a.w := ha2 a (by rw [hdr]; simp)
      have hInc : ∀ x ∈ z1.al.drop (i + 1), a.w < x.w := by
        have := hJ.ia
        rw [← List.take_append_drop i z1.al, hdr] at this
        exact fun x hx => List.rel_of_pairwise_cons (List.pairwise_append.1 this).2.1 hx
      have ra : (z1.al.map rowAct)[i + Int.toNat 0]? = some (rowAct a) := by rw [List.getElem?_map, show i + Int.toNat 0 = i from rfl, ha]; rfl
      have hl0' : (0 : Int) < ((z1.al.length - i : Nat) : Int) := by omega
      refine at2 (a := (0 : Int) ≤ 0) (b := (0 : Int) < ((z1.al.length - i : Nat) : Int)) (Int.le_refl 0) hl0' (rd1 (rowAct a) (.int .i64 a.w) ra rfl ?_)
      refine brc_intro (fun hlw => ?_) (fun hlw => ?_)
      · have hlw : a.w ≤ ((s + 1 : Nat) : Int) := of_decide_eq_true hlw
        have hws : a.w = ((s + 1 : Nat) : Int) := by omega
        obtain ⟨_, hat0, hatn⟩ := hJ.at' a (List.mem_of_getElem? ha)
        refine at2 (a := (0 : Int) ≤ 0) (b := (0 : Int) < ((z1.al.length - i : Nat) : Int)) (Int.le_refl 0) hl0' (rdA (rowAct a) ra ?_)
        refine brc_intro (fun h => ?_) (fun _ => ?_)
        · exfalso
          have h := of_decide_eq_true h
          have h : a.t < 0 := h
          omega
        refine brc_intro (fun h => ?_) (fun _ => ?_)
        · exfalso
          have h := of_decide_eq_true h
          have h : a.t ≥ (n : Int) := h
          omega
        have hstep : ∀ X, chA a = X → actP z1.al z1.el s (i + 1) = actP z1.al z1.el s i ++ if X = true then [sdA z1.el s a] else [] := fun X hX => by rw [actP_next ha hws, hX]
        have hnx1 : ∀ x ∈ z1.al.take (i + 1), x.w ≤ ((s + 1 : Nat) : Int) := fun x hx => by
          rw [List.take_add_one, ha] at hx
          rcases List.mem_append.1 hx with hx | hx
          · exact ha1 x hx
          · obtain rfl := List.mem_singleton.1 hx
            exact hlw
        have hnx2 : ∀ x ∈ z1.al.drop (i + 1), (s : Int) < x.w := fun x hx => by have := hInc x hx; omega
        have hl1 : (1 : Int) ≤ ((z1.al.length - i : Nat) : Int) := by omega
        have hsub : z1.al.length - i - 1 = z1.al.length - (i + 1) := by omega
        have same : chA a = false → actP z1.al z1.el s (i + 1) = actP z1.al z1.el s i := fun h => by rw [hstep false h, if_neg (by decide), List.append_nil]
        refine brc_intro (fun h9 => ?_) (fun h9 => ?_)
        · have h9 : a.o = 9 := by simpa using h9
          refine brc_intro (fun hch => ?_) (fun hch => ?_)
          · have hch : a.x ≠ a.y := by simpa using hch
            have hcA : chA a = true := by rw [chA]; exact decide_eq_true ⟨h9, hch⟩
            have hnew := hstep true hcA
            rw [if_pos rfl] at hnew
            obtain ⟨t, ht⟩ : ∃ t : Nat, a.t = t := ⟨a.t.toNat, by omega⟩
            have hix : (0 : Int) ≤ a.t ∧ a.t < (n : Int) := ⟨hat0, hatn⟩
            have hcnt : cntE z1.el a.t s = ((endT t (z1.el.take j)).length : Int) := by rw [ht]; exact cntE_take he1 he2
            have hcl : (endT t (z1.el.take j)).length ≤ 20000 := by
              have h1 := endT_len t (z1.el.take j)
              rw [List.length_take] at h1
              omega
            have rdx : ((rdL n (z1.el.take j)).map rowZ)[0 + Int.toNat a.t]? = some (rowZ (cntE z1.el a.t s)) := by rw [Nat.zero_add, List.getElem?_map, hcnt, ht, Int.toNat_natCast, rdL_get _ (by omega)]; rfl
            have hsdl := sdK_small z1.al z1.el s
            have hapl := actP_small z1.al z1.el s i
            have hw1 : IntKind.i64.wrap (cntE z1.el a.t s + 1) = cntE z1.el a.t s + 1 := by rw [hcnt]; exact wrap_i64 _ (by omega) (by omega)
            refine SS.drawR follows (by decide) ?_
            repeat' (first | refine draw_cond (v := cv (.rptr 15 (0 + Int.toNat a.t) 0)) (C := (0 : Int) ≤ a.t ∧ a.t < (n : Int)) rfl (fun _ => rfl) (by intro _ c k; exact ⟨c.1, c.2, k⟩) (by intro _; rfl) hix ?_ | refine draw_cond (v := i64 (cntE z1.el a.t s)) (C := ((rdL n (z1.el.take j)).map rowZ)[0 + Int.toNat a.t]? = some (rowZ (cntE z1.el a.t s))) rfl (fun _ => rfl) (by intro _ c k; exact ⟨rowZ (cntE z1.el a.t s), .int .i64 (cntE z1.el a.t s), c, rfl, k⟩) (by intro _; rfl) rdx ?_ | refine draw_known rfl (fun _ => rfl) (fun _ => rfl) (fun _ => rfl) ?_ | fail)
            refine draw_eff1 rfl rfl ?_
            refine eff_run (fun _ => rfl) ?_
            repeat' (first | refine And.intro rfl ?_ | refine And.intro (And.intro hix.1 (And.intro hix.2 rfl)) ?_ | refine And.intro (Exists.intro _ (Exists.intro _ (And.intro rdx (And.intro rfl rfl)))) ?_ | fail)
            change drawnR _ _ _ _ _ _ _ _ _ _
            repeat' (first | refine draw_known rfl (fun _ => rfl) (fun _ => rfl) (fun _ => rfl) ?_ | fail)
            refine draw_eff1 rfl rfl ?_
            refine eff_run (fun _ => rfl) ?_
            have hXl : (sdK z1.al z1.el s ++ actP z1.al z1.el s i).length ≤ 80000 := by rw [List.length_append]; omega
            have hrow : rowEv (sdA z1.el s a) = [.int .i64 0, .int .i64 1, .int .i64 a.t, .int .i64 (IntKind.i64.wrap (cntE z1.el a.t s + 1))] := by rw [hw1]; rfl
            have hXn : sdK z1.al z1.el s ++ actP z1.al z1.el s (i + 1) = (sdK z1.al z1.el s ++ actP z1.al z1.el s i) ++ [sdA z1.el s a] := by rw [hnew, List.append_assoc]
            generalize sdK z1.al z1.el s ++ actP z1.al z1.el s i = X at hXl hXn ⊢
            refine And.intro (by simp) (Or.inl (And.intro rfl (And.intro (by rw [List.length_map]) (And.intro (by show (X.length + 1) * 32 ≤ _; omega) (And.intro (by show X.length + 1 ≤ _; omega) ?_)))))
            repeat' (first | refine And.intro rfl ?_ | refine And.intro (And.intro hix.1 (And.intro hix.2 rfl)) ?_ | refine And.intro (Exists.intro _ (Exists.intro _ (And.intro rdx (And.intro rfl rfl)))) ?_ | fail)
            change drawnR _ _ _ _ _ _ _ _ _ _
            repeat' (first | refine draw_known rfl (fun _ => rfl) (fun _ => rfl) (fun _ => rfl) ?_ | fail)
            refine draw_eff1 rfl rfl ?_
            refine eff_known (fun _ => rfl) (fun _ => rfl) (fun _ => rfl) ?_
            repeat' (first | refine And.intro rfl ?_ | refine And.intro (And.intro hix.1 (And.intro hix.2 rfl)) ?_ | refine And.intro (Exists.intro _ (Exists.intro _ (And.intro rdx (And.intro rfl rfl)))) ?_ | fail)
            change drawnR _ _ _ _ _ _ _ _ _ _
            refine draw_end rfl rfl rfl ?_
            refine Or.inl (at2 (a := (0 : Int) ≤ 1) (b := (1 : Int) ≤ ((z1.al.length - i : Nat) : Int)) (by decide) hl1 ?_)
            refine At.mk' [0, 1, 9, 13, 14, 15, 16, 17, 18, 19, 20] (i + 1, (b1 || Nat.blt 0 (z1.al.length - i))) ⟨⟨hil, hnx1, hnx2⟩, by show z1.al.length - (i + 1) < z1.al.length - i; omega⟩ ⟨?_, rfl⟩ ?_ rfl (by simp) (by simp) (by decide)
            · rw [hXn, ← hsub, List.length_append]
              rfl
            · rw [hXn, List.map_append, show List.map rowEv [sdA z1.el s a] = [rowEv (sdA z1.el s a)] from rfl, hrow]
              rfl
          · have hch : a.x = a.y := by simpa using hch
            have hcA : chA a = false := by rw [chA]; exact decide_eq_false fun h => h.2 hch
            refine Or.inl (at2 (a := (0 : Int) ≤ 1) (b := (1 : Int) ≤ ((z1.al.length - i : Nat) : Int)) (by decide) hl1 ?_)
            refine At.mk' [0, 1, 9, 13, 14, 15, 16, 17, 18, 19, 20] (i + 1, (b1 || Nat.blt 0 (z1.al.length - i))) ⟨⟨hil, hnx1, hnx2⟩, by show z1.al.length - (i + 1) < z1.al.length - i; omega⟩ ⟨?_, rfl⟩ ?_ rfl (by simp) (by simp) (by decide)
            · rw [same hcA, ← hsub]
              rfl
            · rw [same hcA]
              rfl
        · have hcA : chA a = false := by rw [chA]; exact decide_eq_false fun h => by have h := h.1; simp [h] at h9
          refine Or.inl (at2 (a := (0 : Int) ≤ 1) (b := (1 : Int) ≤ ((z1.al.length - i : Nat) : Int)) (by decide) hl1 ?_)
          refine At.mk' [0, 1, 9, 13, 14, 15, 16, 17, 18, 19, 20] (i + 1, (b1 || Nat.blt 0 (z1.al.length - i))) ⟨⟨hil, hnx1, hnx2⟩, by show z1.al.length - (i + 1) < z1.al.length - i; omega⟩ ⟨?_, rfl⟩ ?_ rfl (by simp) (by simp) (by decide)
          · rw [same hcA, ← hsub]
            rfl
          · rw [same hcA]
            rfl
      · have hlw : ¬ a.w ≤ ((s + 1 : Nat) : Int) := of_decide_eq_false hlw
        have hlater : ∀ x ∈ z1.al.drop i, ((s + 1 : Nat) : Int) < x.w := fun x hx => by
          rw [hdr] at hx
          rcases List.mem_cons.1 hx with rfl | hx
          · omega
          · have := hInc x hx; omega
        have hY := after hlater
        have hYd : sdK z1.al z1.el (s + 1) = (sdK z1.al z1.el s ++ (z1.al.filter fun a => decide (a.w = ((s + 1 : Nat) : Int)) && chA a).map (sdA z1.el s)) ++ (z1.el.filter fun e => decide (e.w = ((s + 1 : Nat) : Int))).map (sdE z1.el s) := rfl
        generalize (sdK z1.al z1.el s ++ (z1.al.filter fun a => decide (a.w = ((s + 1 : Nat) : Int)) && chA a).map (sdA z1.el s)) = Y at hY hYd
        refine SS.loop (fun s' : Nat × Bool => s'.1 ≤ z1.el.length ∧ (∀ a ∈ z1.el.take s'.1, a.w ≤ ((s + 1 : Nat) : Int)) ∧ (∀ a ∈ z1.el.drop s'.1, (s : Int) < a.w))
          (fun s' => [(0, i64 n), (1, i64 R), (9, cv (.ptr 3 0)), (13, cv (.ptr 6 0)), (14, bl true), (15, bl false), (16, cv (.slc 18 0 (Y ++ evP z1.el s s'.1).length none false)), (17, cv (.slc 15 0 n none true)), (18, cv (.slc 16 i (z1.al.length - i) none b1)), (19, cv (.slc 17 s'.1 (z1.el.length - s'.1) none s'.2)), (20, i64 (s + 1 : Nat))])
          (fun s' => [.rows true 2 (ms.map rowMove), rtH, .rows false 1 (pasT.map rowZ), .one [.f (.bool false), .f (.int .i64 P0), .f (.int .i64 n), .f (.int .i64 n)], callsH false calls, .rows false 1 ([w].map rowU)] ++ machS 6 z1 v1 ++ [.rows false 1 ((rdL n (z1.el.take s'.1)).map rowZ), .rows false 6 (z1.al.map rowAct), .rows false 4 (z1.el.map rowEv), .rows false 4 ((Y ++ evP z1.el s s'.1).map rowEv)]) (fun s' => z1.el.length - s'.1) [12, 13, 14, 4, 5, 6, 7, 18]
          (At.mk' [0, 1, 9, 13, 14, 15, 16, 17, 18, 19, 20] (j, b2) ⟨hj, fun a h => by have := he1 a h; omega, he2⟩ ⟨?_, rfl⟩ ?_ rfl (by simp) (by simp) (by decide)) ?_
        · rw [evP_none (fun a h => by have := he1 a h; omega), List.append_nil, ← hY]
        · rw [evP_none (fun a h => by have := he1 a h; omega), List.append_nil, ← hY]
          rfl
        rintro ⟨j, b2⟩ ⟨hj, he1, he2⟩
        dsimp only at hj he1 he2
        refine S_r ?_
        have done : (∀ e ∈ z1.el.drop j, ((s + 1 : Nat) : Int) < e.w) → Y ++ evP z1.el s j = sdK z1.al z1.el (s + 1) := fun h => by rw [evP_all h, hYd]
        refine brc_intro (fun hl0 => ?_) (fun hl0 => ?_)
        · have hjl : j < z1.el.length := by
            have h := of_decide_eq_true hl0
            have h : ((z1.el.length - j : Nat) : Int) > 0 := h
            omega
          obtain ⟨e, he⟩ : ∃ e, z1.el[j]? = some e := ⟨_, List.getElem?_eq_getElem hjl⟩
          have hdr : z1.el.drop j = e :: z1.el.drop (j + 1) := by
            obtain ⟨_, haa⟩ := List.getElem?_eq_some_iff.1 he
            rw [List.drop_eq_getElem_cons hjl, haa]
          have hew : (s : Int) < e.w := he2 e (by rw [hdr]; simp)
          have hie := hJ.ie
          rw [← List.take_append_drop j z1.el, hdr] at hie
          have hInc : ∀ x ∈ z1.el.drop (j + 1), e.w < x.w := fun x hx => List.rel_of_pairwise_cons (List.pairwise_append.1 hie).2.1 hx
          have hBef : ∀ x ∈ z1.el.take j, x.w < e.w := fun x hx => (List.pairwise_append.1 hie).2.2 x hx e (by simp)
          have re : (z1.el.map rowEv)[j + Int.toNat 0]? = some (rowEv e) := by rw [List.getElem?_map, show j + Int.toNat 0 = j from rfl, he]; rfl
          have hl0' : (0 : Int) < ((z1.el.length - j : Nat) : Int) := by omega
          refine at2 (a := (0 : Int) ≤ 0) (b := (0 : Int) < ((z1.el.length - j : Nat) : Int)) (Int.le_refl 0) hl0' (rd1 (rowEv e) (.int .i64 e.w) re rfl ?_)
          refine brc_intro (fun hlw => ?_) (fun hlw => ?_)
          · have hlw : e.w ≤ ((s + 1 : Nat) : Int) := of_decide_eq_true hlw
            have hws : e.w = ((s + 1 : Nat) : Int) := by omega
            obtain ⟨_, t, ht, htn, hev⟩ := hJ.ev j e he
            have hcnt : cntE z1.el e.t s = ((endT t (z1.el.take j)).length : Int) := by
              rw [ht]
              exact cntE_take (fun x hx => by have := hBef x hx; omega) fun x hx => by
                rw [hdr] at hx
                rcases List.mem_cons.1 hx with rfl | hx
                · exact hew
                · have := hInc x hx; omega
            have hcl : (endT t (z1.el.take j)).length ≤ 20000 := by
              have h1 := endT_len t (z1.el.take j)
              rw [List.length_take] at h1
              omega
            have hix : (0 : Int) ≤ e.t ∧ e.t < (n : Int) := by omega
            have rdx : ((rdL n (z1.el.take j)).map rowZ)[0 + Int.toNat e.t]? = some (rowZ (cntE z1.el e.t s)) := by rw [Nat.zero_add, List.getElem?_map, hcnt, ht, Int.toNat_natCast, rdL_get _ htn]; rfl
            have hl1 : (1 : Int) ≤ ((z1.el.length - j : Nat) : Int) := by omega
            have hsub : z1.el.length - j - 1 = z1.el.length - (j + 1) := by omega
            have dT1 : decide (e.t < 0) = false := decide_eq_false (by omega)
            have dT2 : decide (e.t ≥ (n : Int)) = false := decide_eq_false (by omega)
            have hsum : Int.tmod (IntKind.i64.wrap (IntKind.i64.wrap ((P0 : Int) + cntE z1.el e.t s) + 1)) 2147483648 = e.v := by
              rw [hcnt, wrap_i64 ((P0 : Int) + _) (by omega) (by omega), wrap_i64 _ (by omega) (by omega), Int.tmod_eq_emod_of_nonneg (by omega), hev, φZ]
              omega
            have dN : (e.v != Int.tmod (IntKind.i64.wrap (IntKind.i64.wrap ((P0 : Int) + cntE z1.el e.t s) + 1)) 2147483648) = false := by rw [hsum]; simp
            refine at2 (a := (0 : Int) ≤ 0) (b := (0 : Int) < ((z1.el.length - j : Nat) : Int)) (Int.le_refl 0) hl0' (rdA (rowEv e) re ?_)
            refine SS.drawR follows (by decide) ?_
            repeat' (first | refine draw_known (v := bl false) rfl (fun _ => rfl) (fun K' => congrArg (fun z => K' (bl z) [] _) dT1) (fun _ => rfl) ?_ | refine draw_known (v := bl false) rfl (fun _ => rfl) (fun K' => congrArg (fun z => K' (bl z) [] _) dT2) (fun _ => rfl) ?_ | refine draw_known (v := bl false) rfl (fun _ => rfl) (fun K' => congrArg (fun z => K' (bl z) [] _) dN) (fun _ => rfl) ?_ | refine draw_cond (v := cv (.rptr 15 (0 + Int.toNat e.t) 0)) (C := (0 : Int) ≤ e.t ∧ e.t < (n : Int)) rfl (fun _ => rfl) (by intro _ c k; exact ⟨c.1, c.2, k⟩) (by intro _; rfl) hix ?_ | refine draw_cond (v := i64 (cntE z1.el e.t s)) (C := ((rdL n (z1.el.take j)).map rowZ)[0 + Int.toNat e.t]? = some (rowZ (cntE z1.el e.t s))) rfl (fun _ => rfl) (by intro _ c k; exact ⟨rowZ (cntE z1.el e.t s), .int .i64 (cntE z1.el e.t s), c, rfl, k⟩) (by intro _; rfl) rdx ?_ | refine draw_known rfl (fun _ => rfl) (fun _ => rfl) (fun _ => rfl) ?_ | refine draw_skip rfl (fun _ => rfl) (fun _ => rfl) ?_ | refine draw_end rfl rfl rfl ?_ | fail)
            refine at2 hix.1 hix.2 (rd1 (rowZ (cntE z1.el e.t s)) (.int .i64 (cntE z1.el e.t s)) rdx rfl ?_)
            refine at2 hix.1 hix.2 (wr1 (rowZ (cntE z1.el e.t s)) rdx ?_)
            have hw1 : IntKind.i64.wrap (cntE z1.el e.t s + 1) = cntE z1.el e.t s + 1 := by rw [hcnt]; exact wrap_i64 _ (by omega) (by omega)
            have hset : ((rdL n (z1.el.take j)).map rowZ).set (0 + Int.toNat e.t) [.int .i64 (IntKind.i64.wrap (cntE z1.el e.t s + 1))] = (rdL n (z1.el.take (j + 1))).map rowZ := by
              rw [hw1, List.take_add_one, he, show (some e).toList = [e] from rfl, rdL_snoc ht htn, List.map_set, hcnt, ht, Int.toNat_natCast, Nat.zero_add]
            have rdx2 : (((rdL n (z1.el.take j)).map rowZ).set (0 + Int.toNat e.t) [.int .i64 (IntKind.i64.wrap (cntE z1.el e.t s + 1))])[0 + Int.toNat e.t]? = some [.int .i64 (IntKind.i64.wrap (cntE z1.el e.t s + 1))] := by
              rw [List.getElem?_set, if_pos rfl, if_pos (List.getElem?_eq_some_iff.1 rdx).1]
            generalize hS : ((rdL n (z1.el.take j)).map rowZ).set (0 + Int.toNat e.t) [.int .i64 (IntKind.i64.wrap (cntE z1.el e.t s + 1))] = S at hset rdx2
            refine SS.drawR follows (by decide) ?_
            rw [hS]
            repeat' (first | refine draw_cond (v := cv (.rptr 15 (0 + Int.toNat e.t) 0)) (C := (0 : Int) ≤ e.t ∧ e.t < (n : Int)) rfl (fun _ => rfl) (by intro _ c k; exact ⟨c.1, c.2, k⟩) (by intro _; rfl) hix ?_ | refine draw_cond (v := i64 (IntKind.i64.wrap (cntE z1.el e.t s + 1))) (C := S[0 + Int.toNat e.t]? = some [.int .i64 (IntKind.i64.wrap (cntE z1.el e.t s + 1))]) rfl (fun _ => rfl) (by intro _ c k; exact ⟨_, .int .i64 (IntKind.i64.wrap (cntE z1.el e.t s + 1)), c, rfl, k⟩) (by intro _; rfl) rdx2 ?_ | refine draw_known rfl (fun _ => rfl) (fun _ => rfl) (fun _ => rfl) ?_ | fail)
            refine draw_eff1 rfl rfl ?_
            refine eff_run (fun _ => rfl) ?_
            repeat' (first | refine And.intro rfl ?_ | refine And.intro (And.intro hix.1 (And.intro hix.2 rfl)) ?_ | refine And.intro (Exists.intro _ (Exists.intro _ (And.intro rdx2 (And.intro rfl rfl)))) ?_ | fail)
            change drawnR _ _ _ _ _ _ _ _ _ _
            repeat' (first | refine draw_known rfl (fun _ => rfl) (fun _ => rfl) (fun _ => rfl) ?_ | fail)
            refine draw_eff1 rfl rfl ?_
            refine eff_run (fun _ => rfl) ?_
            have hXl : (Y ++ evP z1.el s j).length ≤ 160000 := by
              have h1 := sdK_small z1.al z1.el s
              have h2 := actP_small z1.al z1.el s i
              have h3 := evP_small z1.el s j
              have h4 := congrArg List.length hY
              rw [List.length_append] at h4 ⊢
              omega
            have hrow : rowEv (sdE z1.el s e) = [.int .i64 0, .int .i64 2, .int .i64 e.t, .int .i64 (IntKind.i64.wrap (cntE z1.el e.t s + 1))] := by rw [hw1]; rfl
            have hXn : Y ++ evP z1.el s (j + 1) = (Y ++ evP z1.el s j) ++ [sdE z1.el s e] := by rw [evP_next he hws, List.append_assoc]
            generalize Y ++ evP z1.el s j = X at hXl hXn ⊢
            refine And.intro (by simp) (Or.inl (And.intro rfl (And.intro (by rw [List.length_map]) (And.intro (by show (X.length + 1) * 32 ≤ _; omega) (And.intro (by show X.length + 1 ≤ _; omega) ?_)))))
            repeat' (first | refine And.intro rfl ?_ | refine And.intro (And.intro hix.1 (And.intro hix.2 rfl)) ?_ | refine And.intro (Exists.intro _ (Exists.intro _ (And.intro rdx2 (And.intro rfl rfl)))) ?_ | fail)
            change drawnR _ _ _ _ _ _ _ _ _ _
            repeat' (first | refine draw_known rfl (fun _ => rfl) (fun _ => rfl) (fun _ => rfl) ?_ | fail)
            refine draw_eff1 rfl rfl ?_
            refine eff_known (fun _ => rfl) (fun _ => rfl) (fun _ => rfl) ?_
            repeat' (first | refine And.intro rfl ?_ | refine And.intro (And.intro hix.1 (And.intro hix.2 rfl)) ?_ | refine And.intro (Exists.intro _ (Exists.intro _ (And.intro rdx2 (And.intro rfl rfl)))) ?_ | fail)
            change drawnR _ _ _ _ _ _ _ _ _ _
            refine draw_end rfl rfl rfl ?_
            refine Or.inl (at2 (a := (0 : Int) ≤ 1) (b := (1 : Int) ≤ ((z1.el.length - j : Nat) : Int)) (by decide) hl1 ?_)
            refine At.mk' [0, 1, 9, 13, 14, 15, 16, 17, 18, 19, 20] (j + 1, (b2 || Nat.blt 0 (z1.el.length - j))) ⟨⟨hjl, fun x hx => ?_, fun x hx => by have := hInc x hx; omega⟩, by show z1.el.length - (j + 1) < z1.el.length - j; omega⟩ ⟨?_, rfl⟩ ?_ rfl (by simp) (by simp) (by decide)
            · rw [List.take_add_one, he] at hx
              rcases List.mem_append.1 hx with hx | hx
              · exact he1 x hx
              · obtain rfl := List.mem_singleton.1 hx
                exact hlw
            · rw [hXn, ← hsub, List.length_append]
              rfl
            · rw [hXn, List.map_append, show List.map rowEv [sdE z1.el s e] = [rowEv (sdE z1.el s e)] from rfl, hrow, ← hset]
              rfl
          · have hlw : ¬ e.w ≤ ((s + 1 : Nat) : Int) := of_decide_eq_false hlw
            have hlate2 : ∀ x ∈ z1.el.drop j, ((s + 1 : Nat) : Int) < x.w := fun x hx => by
              rw [hdr] at hx
              rcases List.mem_cons.1 hx with rfl | hx
              · omega
              · have := hInc x hx; omega
            have hd := done hlate2
            rw [hd]
            refine At.mk' [0, 1, 9, 13, 14, 15, 16, 17, 18, 19, 20] (s + 1, i, j, b1, b2) ⟨⟨hlt, hi, hj, ha1, hlater, he1, hlate2⟩, by show z1.k - (s + 1) < z1.k - s; omega⟩ ⟨?_, rfl⟩ rfl rfl (by simp) (by simp) (by decide)
            rw [show IntKind.i64.wrap (((s + 1 : Nat) : Int) + 1) = ((s + 1 + 1 : Nat) : Int) from wrap_i64 _ (by omega) (by omega)]
        · have hl0 : ¬ ((z1.el.length - j : Nat) : Int) > 0 := of_decide_eq_false hl0
          have hlate2 : ∀ x ∈ z1.el.drop j, ((s + 1 : Nat) : Int) < x.w := fun x hx => by rw [List.drop_eq_nil_of_le (by omega)] at hx; cases hx
          have hd := done hlate2
          rw [hd]
          refine At.mk' [0, 1, 9, 13, 14, 15, 16, 17, 18, 19, 20] (s + 1, i, j, b1, b2) ⟨⟨hlt, hi, hj, ha1, hlater, he1, hlate2⟩, by show z1.k - (s + 1) < z1.k - s; omega⟩ ⟨?_, rfl⟩ rfl rfl (by simp) (by simp) (by decide)
          rw [show IntKind.i64.wrap (((s + 1 : Nat) : Int) + 1) = ((s + 1 + 1 : Nat) : Int) from wrap_i64 _ (by omega) (by omega)]
    · have hl0 : ¬ ((z1.al.length - i : Nat) : Int) > 0 := of_decide_eq_false hl0
      have hlater : ∀ x ∈ z1.al.drop i, ((s + 1 : Nat) : Int) < x.w := fun x hx => by rw [List.drop_eq_nil_of_le (by omega)] at hx; cases hx
      have hY := after hlater
      have hYd : sdK z1.al z1.el (s + 1) = (sdK z1.al z1.el s ++ (z1.al.filter fun a => decide (a.w = ((s + 1 : Nat) : Int)) && chA a).map (sdA z1.el s)) ++ (z1.el.filter fun e => decide (e.w = ((s + 1 : Nat) : Int))).map (sdE z1.el s) := rfl
      generalize (sdK z1.al z1.el s ++ (z1.al.filter fun a => decide (a.w = ((s + 1 : Nat) : Int)) && chA a).map (sdA z1.el s)) = Y at hY hYd
      refine SS.loop (fun s' : Nat × Bool => s'.1 ≤ z1.el.length ∧ (∀ a ∈ z1.el.take s'.1, a.w ≤ ((s + 1 : Nat) : Int)) ∧ (∀ a ∈ z1.el.drop s'.1, (s : Int) < a.w))
        (fun s' => [(0, i64 n), (1, i64 R), (9, cv (.ptr 3 0)), (13, cv (.ptr 6 0)), (14, bl true), (15, bl false), (16, cv (.slc 18 0 (Y ++ evP z1.el s s'.1).length none false)), (17, cv (.slc 15 0 n none true)), (18, cv (.slc 16 i (z1.al.length - i) none b1)), (19, cv (.slc 17 s'.1 (z1.el.length - s'.1) none s'.2)), (20, i64 (s + 1 : Nat))])
        (fun s' => [.rows true 2 (ms.map rowMove), rtH, .rows false 1 (pasT.map rowZ), .one [.f (.bool false), .f (.int .i64 P0), .f (.int .i64 n), .f (.int .i64 n)], callsH false calls, .rows false 1 ([w].map rowU)] ++ machS 6 z1 v1 ++ [.rows false 1 ((rdL n (z1.el.take s'.1)).map rowZ), .rows false 6 (z1.al.map rowAct), .rows false 4 (z1.el.map rowEv), .rows false 4 ((Y ++ evP z1.el s s'.1).map rowEv)]) (fun s' => z1.el.length - s'.1) [12, 13, 14, 4, 5, 6, 7, 18]
        (At.mk' [0, 1, 9, 13, 14, 15, 16, 17, 18, 19, 20] (j, b2) ⟨hj, fun a h => by have := he1 a h; omega, he2⟩ ⟨?_, rfl⟩ ?_ rfl (by simp) (by simp) (by decide)) ?_
      · rw [evP_none (fun a h => by have := he1 a h; omega), List.append_nil, ← hY]
      · rw [evP_none (fun a h => by have := he1 a h; omega), List.append_nil, ← hY]
        rfl
      rintro ⟨j, b2⟩ ⟨hj, he1, he2⟩
      dsimp only at hj he1 he2
      refine S_r ?_
      have done : (∀ e ∈ z1.el.drop j, ((s + 1 : Nat) : Int) < e.w) → Y ++ evP z1.el s j = sdK z1.al z1.el (s + 1) := fun h => by rw [evP_all h, hYd]
      refine brc_intro (fun hl0 => ?_) (fun hl0 => ?_)
      · have hjl : j < z1.el.length := by
          have h := of_decide_eq_true hl0
          have h : ((z1.el.length - j : Nat) : Int) > 0 := h
          omega
        obtain ⟨e, he⟩ : ∃ e, z1.el[j]? = some e := ⟨_, List.getElem?_eq_getElem hjl⟩
        have hdr : z1.el.drop j = e :: z1.el.drop (j + 1) := by
          obtain ⟨_, haa⟩ := List.getElem?_eq_some_iff.1 he
          rw [List.drop_eq_getElem_cons hjl, haa]
        have hew : (s : Int) < e.w := he2 e (by rw [hdr]; simp)
        have hie := hJ.ie
        rw [← List.take_append_drop j z1.el, hdr] at hie
        have hInc : ∀ x ∈ z1.el.drop (j + 1), e.w < x.w := fun x hx => List.rel_of_pairwise_cons (List.pairwise_append.1 hie).2.1 hx
        have hBef : ∀ x ∈ z1.el.take j, x.w < e.w := fun x hx => (List.pairwise_append.1 hie).2.2 x hx e (by simp)
        have re : (z1.el.map rowEv)[j + Int.toNat 0]? = some (rowEv e) := by rw [List.getElem?_map, show j + Int.toNat 0 = j from rfl, he]; rfl
        have hl0' : (0 : Int) < ((z1.el.length - j : Nat) : Int) := by omega
        refine at2 (a := (0 : Int) ≤ 0) (b := (0 : Int) < ((z1.el.length - j : Nat) : Int)) (Int.le_refl 0) hl0' (rd1 (rowEv e) (.int .i64 e.w) re rfl ?_)
        refine brc_intro (fun hlw => ?_) (fun hlw => ?_)
        · have hlw : e.w ≤ ((s + 1 : Nat) : Int) := of_decide_eq_true hlw
          have hws : e.w = ((s + 1 : Nat) : Int) := by omega
          obtain ⟨_, t, ht, htn, hev⟩ := hJ.ev j e he
          have hcnt : cntE z1.el e.t s = ((endT t (z1.el.take j)).length : Int) := by
            rw [ht]
            exact cntE_take (fun x hx => by have := hBef x hx; omega) fun x hx => by
              rw [hdr] at hx
              rcases List.mem_cons.1 hx with rfl | hx
              · exact hew
              · have := hInc x hx; omega
          have hcl : (endT t (z1.el.take j)).length ≤ 20000 := by
            have h1 := endT_len t (z1.el.take j)
            rw [List.length_take] at h1
            omega
          have hix : (0 : Int) ≤ e.t ∧ e.t < (n : Int) := by omega
          have rdx : ((rdL n (z1.el.take j)).map rowZ)[0 + Int.toNat e.t]? = some (rowZ (cntE z1.el e.t s)) := by rw [Nat.zero_add, List.getElem?_map, hcnt, ht, Int.toNat_natCast, rdL_get _ htn]; rfl
          have hl1 : (1 : Int) ≤ ((z1.el.length - j : Nat) : Int) := by omega
          have hsub : z1.el.length - j - 1 = z1.el.length - (j + 1) := by omega
          have dT1 : decide (e.t < 0) = false := decide_eq_false (by omega)
          have dT2 : decide (e.t ≥ (n : Int)) = false := decide_eq_false (by omega)
          have hsum : Int.tmod (IntKind.i64.wrap (IntKind.i64.wrap ((P0 : Int) + cntE z1.el e.t s) + 1)) 2147483648 = e.v := by
            rw [hcnt, wrap_i64 ((P0 : Int) + _) (by omega) (by omega), wrap_i64 _ (by omega) (by omega), Int.tmod_eq_emod_of_nonneg (by omega), hev, φZ]
            omega
          have dN : (e.v != Int.tmod (IntKind.i64.wrap (IntKind.i64.wrap ((P0 : Int) + cntE z1.el e.t s) + 1)) 2147483648) = false := by rw [hsum]; simp
          refine at2 (a := (0 : Int) ≤ 0) (b := (0 : Int) < ((z1.el.length - j : Nat) : Int)) (Int.le_refl 0) hl0' (rdA (rowEv e) re ?_)
          refine SS.drawR follows (by decide) ?_
          repeat' (first | refine draw_known (v := bl false) rfl (fun _ => rfl) (fun K' => congrArg (fun z => K' (bl z) [] _) dT1) (fun _ => rfl) ?_ | refine draw_known (v := bl false) rfl (fun _ => rfl) (fun K' => congrArg (fun z => K' (bl z) [] _) dT2) (fun _ => rfl) ?_ | refine draw_known (v := bl false) rfl (fun _ => rfl) (fun K' => congrArg (fun z => K' (bl z) [] _) dN) (fun _ => rfl) ?_ | refine draw_cond (v := cv (.rptr 15 (0 + Int.toNat e.t) 0)) (C := (0 : Int) ≤ e.t ∧ e.t < (n : Int)) rfl (fun _ => rfl) (by intro _ c k; exact ⟨c.1, c.2, k⟩) (by intro _; rfl) hix ?_ | refine draw_cond (v := i64 (cntE z1.el e.t s)) (C := ((rdL n (z1.el.take j)).map rowZ)[0 + Int.toNat e.t]? = some (rowZ (cntE z1.el e.t s))) rfl (fun _ => rfl) (by intro _ c k; exact ⟨rowZ (cntE z1.el e.t s), .int .i64 (cntE z1.el e.t s), c, rfl, k⟩) (by intro _; rfl) rdx ?_ | refine draw_known rfl (fun _ => rfl) (fun _ => rfl) (fun _ => rfl) ?_ | refine draw_skip rfl (fun _ => rfl) (fun _ => rfl) ?_ | refine draw_end rfl rfl rfl ?_ | fail)
          refine at2 hix.1 hix.2 (rd1 (rowZ (cntE z1.el e.t s)) (.int .i64 (cntE z1.el e.t s)) rdx rfl ?_)
          refine at2 hix.1 hix.2 (wr1 (rowZ (cntE z1.el e.t s)) rdx ?_)
          have hw1 : IntKind.i64.wrap (cntE z1.el e.t s + 1) = cntE z1.el e.t s + 1 := by rw [hcnt]; exact wrap_i64 _ (by omega) (by omega)
          have hset : ((rdL n (z1.el.take j)).map rowZ).set (0 + Int.toNat e.t) [.int .i64 (IntKind.i64.wrap (cntE z1.el e.t s + 1))] = (rdL n (z1.el.take (j + 1))).map rowZ := by
            rw [hw1, List.take_add_one, he, show (some e).toList = [e] from rfl, rdL_snoc ht htn, List.map_set, hcnt, ht, Int.toNat_natCast, Nat.zero_add]
          have rdx2 : (((rdL n (z1.el.take j)).map rowZ).set (0 + Int.toNat e.t) [.int .i64 (IntKind.i64.wrap (cntE z1.el e.t s + 1))])[0 + Int.toNat e.t]? = some [.int .i64 (IntKind.i64.wrap (cntE z1.el e.t s + 1))] := by
            rw [List.getElem?_set, if_pos rfl, if_pos (List.getElem?_eq_some_iff.1 rdx).1]
          generalize hS : ((rdL n (z1.el.take j)).map rowZ).set (0 + Int.toNat e.t) [.int .i64 (IntKind.i64.wrap (cntE z1.el e.t s + 1))] = S at hset rdx2
          refine SS.drawR follows (by decide) ?_
          rw [hS]
          repeat' (first | refine draw_cond (v := cv (.rptr 15 (0 + Int.toNat e.t) 0)) (C := (0 : Int) ≤ e.t ∧ e.t < (n : Int)) rfl (fun _ => rfl) (by intro _ c k; exact ⟨c.1, c.2, k⟩) (by intro _; rfl) hix ?_ | refine draw_cond (v := i64 (IntKind.i64.wrap (cntE z1.el e.t s + 1))) (C := S[0 + Int.toNat e.t]? = some [.int .i64 (IntKind.i64.wrap (cntE z1.el e.t s + 1))]) rfl (fun _ => rfl) (by intro _ c k; exact ⟨_, .int .i64 (IntKind.i64.wrap (cntE z1.el e.t s + 1)), c, rfl, k⟩) (by intro _; rfl) rdx2 ?_ | refine draw_known rfl (fun _ => rfl) (fun _ => rfl) (fun _ => rfl) ?_ | fail)
          refine draw_eff1 rfl rfl ?_
          refine eff_run (fun _ => rfl) ?_
          repeat' (first | refine And.intro rfl ?_ | refine And.intro (And.intro hix.1 (And.intro hix.2 rfl)) ?_ | refine And.intro (Exists.intro _ (Exists.intro _ (And.intro rdx2 (And.intro rfl rfl)))) ?_ | fail)
          change drawnR _ _ _ _ _ _ _ _ _ _
          repeat' (first | refine draw_known rfl (fun _ => rfl) (fun _ => rfl) (fun _ => rfl) ?_ | fail)
          refine draw_eff1 rfl rfl ?_
          refine eff_run (fun _ => rfl) ?_
          have hXl : (Y ++ evP z1.el s j).length ≤ 160000 := by
            have h1 := sdK_small z1.al z1.el s
            have h2 := actP_small z1.al z1.el s i
            have h3 := evP_small z1.el s j
            have h4 := congrArg List.length hY
            rw [List.length_append] at h4 ⊢
            omega
          have hrow : rowEv (sdE z1.el s e) = [.int .i64 0, .int .i64 2, .int .i64 e.t, .int .i64 (IntKind.i64.wrap (cntE z1.el e.t s + 1))] := by rw [hw1]; rfl
          have hXn : Y ++ evP z1.el s (j + 1) = (Y ++ evP z1.el s j) ++ [sdE z1.el s e] := by rw [evP_next he hws, List.append_assoc]
          generalize Y ++ evP z1.el s j = X at hXl hXn ⊢
          refine And.intro (by simp) (Or.inl (And.intro rfl (And.intro (by rw [List.length_map]) (And.intro (by show (X.length + 1) * 32 ≤ _; omega) (And.intro (by show X.length + 1 ≤ _; omega) ?_)))))
          repeat' (first | refine And.intro rfl ?_ | refine And.intro (And.intro hix.1 (And.intro hix.2 rfl)) ?_ | refine And.intro (Exists.intro _ (Exists.intro _ (And.intro rdx2 (And.intro rfl rfl)))) ?_ | fail)
          change drawnR _ _ _ _ _ _ _ _ _ _
          repeat' (first | refine draw_known rfl (fun _ => rfl) (fun _ => rfl) (fun _ => rfl) ?_ | fail)
          refine draw_eff1 rfl rfl ?_
          refine eff_known (fun _ => rfl) (fun _ => rfl) (fun _ => rfl) ?_
          repeat' (first | refine And.intro rfl ?_ | refine And.intro (And.intro hix.1 (And.intro hix.2 rfl)) ?_ | refine And.intro (Exists.intro _ (Exists.intro _ (And.intro rdx2 (And.intro rfl rfl)))) ?_ | fail)
          change drawnR _ _ _ _ _ _ _ _ _ _
          refine draw_end rfl rfl rfl ?_
          refine Or.inl (at2 (a := (0 : Int) ≤ 1) (b := (1 : Int) ≤ ((z1.el.length - j : Nat) : Int)) (by decide) hl1 ?_)
          refine At.mk' [0, 1, 9, 13, 14, 15, 16, 17, 18, 19, 20] (j + 1, (b2 || Nat.blt 0 (z1.el.length - j))) ⟨⟨hjl, fun x hx => ?_, fun x hx => by have := hInc x hx; omega⟩, by show z1.el.length - (j + 1) < z1.el.length - j; omega⟩ ⟨?_, rfl⟩ ?_ rfl (by simp) (by simp) (by decide)
          · rw [List.take_add_one, he] at hx
            rcases List.mem_append.1 hx with hx | hx
            · exact he1 x hx
            · obtain rfl := List.mem_singleton.1 hx
              exact hlw
          · rw [hXn, ← hsub, List.length_append]
            rfl
          · rw [hXn, List.map_append, show List.map rowEv [sdE z1.el s e] = [rowEv (sdE z1.el s e)] from rfl, hrow, ← hset]
            rfl
        · have hlw : ¬ e.w ≤ ((s + 1 : Nat) : Int) := of_decide_eq_false hlw
          have hlate2 : ∀ x ∈ z1.el.drop j, ((s + 1 : Nat) : Int) < x.w := fun x hx => by
            rw [hdr] at hx
            rcases List.mem_cons.1 hx with rfl | hx
            · omega
            · have := hInc x hx; omega
          have hd := done hlate2
          rw [hd]
          refine At.mk' [0, 1, 9, 13, 14, 15, 16, 17, 18, 19, 20] (s + 1, i, j, b1, b2) ⟨⟨hlt, hi, hj, ha1, hlater, he1, hlate2⟩, by show z1.k - (s + 1) < z1.k - s; omega⟩ ⟨?_, rfl⟩ rfl rfl (by simp) (by simp) (by decide)
          rw [show IntKind.i64.wrap (((s + 1 : Nat) : Int) + 1) = ((s + 1 + 1 : Nat) : Int) from wrap_i64 _ (by omega) (by omega)]
      · have hl0 : ¬ ((z1.el.length - j : Nat) : Int) > 0 := of_decide_eq_false hl0
        have hlate2 : ∀ x ∈ z1.el.drop j, ((s + 1 : Nat) : Int) < x.w := fun x hx => by rw [List.drop_eq_nil_of_le (by omega)] at hx; cases hx
        have hd := done hlate2
        rw [hd]
        refine At.mk' [0, 1, 9, 13, 14, 15, 16, 17, 18, 19, 20] (s + 1, i, j, b1, b2) ⟨⟨hlt, hi, hj, ha1, hlater, he1, hlate2⟩, by show z1.k - (s + 1) < z1.k - s; omega⟩ ⟨?_, rfl⟩ rfl rfl (by simp) (by simp) (by decide)
        rw [show IntKind.i64.wrap (((s + 1 : Nat) : Int) + 1) = ((s + 1 + 1 : Nat) : Int) from wrap_i64 _ (by omega) (by omega)]
  · have hlt : ¬ ((s + 1 : Nat) : Int) ≤ (z1.k : Int) := of_decide_eq_false hlt
    obtain rfl : s = z1.k := by omega
    obtain ⟨cc, gg, hr, _, _, hg⟩ := hJ.sd
    obtain ⟨q1, q2, q3⟩ := end_all (R := R) hn8.1 hr (fun t ht => by rw [(hg t ht).1, f3 t ht]) hJ.sv
    have hsl := sdK_small z1.al z1.el z1.k
    generalize sdK z1.al z1.el z1.k = X at q1 q2 q3 hsl ⊢
    change Does Tryd.prog 50 _ _ _
    refine Does.on 19 [18] _ _ (rounds (all := X) (l := X) (k := X.length) (n := n) rfl (fun _ _ => rfl) (by omega) (by omega) (fun _ => ?_) (fun e i h => ?_))
    · rw [q2, q3]
      refine brc_intro (fun _ => ?_) (fun h => ?_)
      · exact congrArg bl (show ((R : Int) == (R : Int)) = true by simp)
      · have h : ((R : Int) == (R : Int)) = false := h
        simp at h
    · rw [q1] at h
      cases h

end Go.Mac
