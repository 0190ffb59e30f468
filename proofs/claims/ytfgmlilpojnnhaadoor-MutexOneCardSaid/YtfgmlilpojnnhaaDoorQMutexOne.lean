/- Threads that lock and unlock: one at a time. -/
import Derived.Test.YtfgmlilpojnnhaaDoorQMutexEnds
import Derived.Test.YtfgmlilpojnnhaaDoorQCount
open Go Go.Proofs Go.Mac
set_option maxRecDepth 100000
namespace Go.Mac

theorem holdZ_take (l : List ActZ) (i : Nat) (a : ActZ) (h : l[i]? = some a) : holdZ (l.take (i + 1)) = holdS (holdZ (l.take i)) a := by
  rw [List.take_add_one, h]
  exact holdZ_snoc _ _

theorem holdZ_none (l : List ActZ) : l.foldl holdS none = none := by
  induction l with
  | nil => rfl
  | cons a l ih => rw [List.foldl_cons]; exact ih

theorem holdZ_pre {l : List ActZ} {h : Int} (hl : holdZ l = some h) (i : Nat) : ∃ g, holdZ (l.take i) = some g := by
  cases hg : holdZ (l.take i) with
  | some g => exact ⟨g, rfl⟩
  | none =>
    exfalso
    have : holdZ l = (l.drop i).foldl holdS (holdZ (l.take i)) := by
      rw [holdZ, holdZ, ← List.foldl_append, List.take_append_drop]
    rw [hg, holdZ_none, hl] at this
    cases this

theorem gAct {l : List ActZ} {i : Nat} {x : ActZ} (h : l[i]? = some x) : (l.map rowAct)[0 + Int.toNat (i : Int)]? = some (rowAct x) := by simp [h]

theorem mutexOne (a : Int) (_ha : -9223372036854775808 ≤ a ∧ a ≤ 9223372036854775807) (b : Int) (_hb : -9223372036854775808 ≤ b ∧ b ≤ 9223372036854775807) (ms : List MoveZ) (dn : Bool) :
    Does Tryd.prog 4 [i64 a, i64 b, cv (.slc 0 0 ms.length none false), bl dn] [.rows true 2 (ms.map rowMove), rtH] fun v _ _ => v = bl true := by
  refine does Tryd.func4 rfl (by decide) ?_
  change Does Tryd.prog 15 _ _ _
  refine Does.alone 2 (locked ?_)
  refine brc_intro (fun _ => rfl) (fun h => ?_)
  have hms : ms.length ≤ 600 := by
    have := of_decide_eq_false h
    omega
  change Does Tryd.prog 16 _ _ _
  refine Does.alone 2 (pick a 8 (by decide) ?_)
  change Does Tryd.prog 16 _ _ _
  refine Does.alone 2 (pick b 6 (by decide) ?_)
  have hpa := pickZ_lt a (n := 8) (by decide)
  have hpb := pickZ_lt b (n := 6) (by decide)
  rw [wrap_i64 (1 + pickZ a 8) (by omega) (by omega)]
  obtain ⟨n, hn⟩ := Int.eq_ofNat_of_zero_le (show 0 ≤ 1 + pickZ a 8 by omega)
  obtain ⟨c, hc⟩ := Int.eq_ofNat_of_zero_le hpb.1
  have hn8 : n ≤ 8 := by omega
  have hc5 : c ≤ 5 := by omega
  rw [hn, hc]
  clear hn hc hpa hpb
  change Does Tryd.prog 18 _ _ _
  refine Does.alone 2 (lockers (n := n) (times := c) (by omega) (by omega) ?_)
  have hI := mut_moves hn8 hc5 ms
  obtain ⟨z, hz⟩ : ∃ z, movesZ (mz0 (List.replicate n (repP mutB c)) [0]) ms = z := ⟨_, rfl⟩
  rw [hz] at hI
  have hll := lockL_len c
  change Does Tryd.prog 17 _ _ _
  refine Does.on 4 [2, 3, 0] _ _ (made (ls := List.replicate n (lockL c)) (ps := List.replicate n (repP mutB c)) (ws := [0]) (ms := ms) (f := 19) (n := n) (nc := 1) (ro := false) (ro2 := false) (ro3 := true) (by simp) (by simp) rfl rfl (by omega) (by decide) (by omega) (fun p hp => ?_) (by decide) (hz := hz) (fun i l p hl hp K' hK' => ?_) fun v hv hw => ?_)
  · obtain rfl := (List.mem_replicate.1 hp).2
    exact List.all_eq_true.1 mutRight c (List.mem_range.2 (by omega))
  · obtain rfl := (List.mem_replicate.1 (List.mem_of_getElem? hl)).2
    obtain rfl := (List.mem_replicate.1 (List.mem_of_getElem? hp)).2
    rw [← mutexP_lock] at hK'
    exact mutexCode' i i _ hl (by omega) (lockFit c) hK'
  generalize hcalls : List.replicate n (lockL c) = calls
  refine brc_intro (fun hdn => ?_) (fun hdn => ?_)
  · change Does Tryd.prog 20 _ _ _
    refine Does.on 13 [4, 5, 6, 7, 8, 9, 10, 11, 12] _ _ (fairFinish (m := z) (v := v) hw hv fun v1 _ hv1 hw1 => ?_)
    obtain ⟨hI1, _⟩ := mut_finish hI (by omega)
    generalize finish z = z1 at hw1 hI1
    obtain ⟨w, t0, hJ⟩ := hI1
    have hal1 := hw1.al
    have hk1 := hw1.k
    have hfo := hJ.fo
    change Does Tryd.prog 25 _ _ _
    refine Does.on 13 [4, 5, 6, 7, 8, 9, 10, 11, 12] _ _ (coreActs (m := z1) (v := v1) (by omega) ?_)
    refine SS.loop (fun p : Nat × Int => p.1 ≤ z1.al.length ∧ holdZ (z1.al.take p.1) = some p.2) (fun p => [(10, i64 p.2), (35, cv (.slc 13 0 z1.al.length none false)), (36, i64 z1.al.length), (37, i64 p.1)])
      (fun _ => [.rows true 2 (ms.map rowMove), rtH, callsH false calls, .rows false 1 [rowU 0]] ++ machS 4 z1 v1 ++ [.rows false 6 (z1.al.map rowAct)]) (fun p => z1.al.length - p.1) [2, 10, 11, 12]
      (At.mk' [10, 35, 36, 37] (0, -1) ⟨by simp, rfl⟩ ⟨rfl, rfl⟩ rfl rfl (by simp) (by simp) (by decide)) ?_
    rintro ⟨i, g⟩ ⟨hi, hg⟩
    change i ≤ z1.al.length at hi
    change holdZ (z1.al.take i) = some g at hg
    refine S_r ?_
    refine brc_intro (fun hlt => ?_) (fun hlt => ?_)
    · have hlt2 : i < z1.al.length := by
        have := of_decide_eq_true hlt
        have : (i : Int) < (z1.al.length : Int) := this
        omega
      obtain ⟨a, ha⟩ : ∃ a, z1.al[i]? = some a := ⟨_, List.getElem?_eq_getElem hlt2⟩
      have hnx := holdZ_take z1.al i a ha
      obtain ⟨g', hg'⟩ := holdZ_pre hfo (i + 1)
      rw [hg', hg, holdS] at hnx
      have wr : IntKind.i64.wrap ((i : Int) + 1) = ((i + 1 : Nat) : Int) := wrap_i64 _ (by omega) (by omega)
      refine SS.inlR ?_
      refine at2 (a := (0 : Int) ≤ (i : Int)) (b := (i : Int) < (z1.al.length : Int)) (by omega) (by omega) (rdA (rowAct a) (gAct ha) ?_)
      refine brc_intro (fun h9 => ?_) (fun h9 => ?_)
      · have h9 : a.o ≠ 9 := by simpa using h9
        rw [if_pos (.inl h9)] at hnx
        obtain rfl := Option.some.inj hnx
        refine At.mk' [10, 35, 36, 37] (i + 1, g') ⟨⟨hlt2, hg'⟩, by show z1.al.length - (i + 1) < z1.al.length - i; omega⟩ ⟨?_, rfl⟩ rfl rfl (by simp) (by simp) (by decide)
        rw [wr]
      · have h9 : a.o = 9 := by simpa using h9
        refine brc_intro (fun hxy => ?_) (fun hxy => ?_)
        · have hxy : a.x = a.y := by simpa using hxy
          rw [if_pos (.inr hxy)] at hnx
          obtain rfl := Option.some.inj hnx
          refine At.mk' [10, 35, 36, 37] (i + 1, g') ⟨⟨hlt2, hg'⟩, by show z1.al.length - (i + 1) < z1.al.length - i; omega⟩ ⟨?_, rfl⟩ rfl rfl (by simp) (by simp) (by decide)
          rw [wr]
        · have hxy : a.x ≠ a.y := by simpa using hxy
          rw [if_neg (fun h => h.elim (fun h => h h9) hxy)] at hnx
          refine brc_intro (fun hx0 => ?_) (fun hx0 => ?_)
          · have hx0 : a.x = 0 := by simpa using hx0
            rw [if_pos hx0] at hnx
            refine brc_intro (fun hh => ?_) (fun hh => ?_)
            · have hh : 0 ≤ g := of_decide_eq_true hh
              rw [if_pos hh] at hnx
              cases hnx
            · have hh : ¬ 0 ≤ g := of_decide_eq_false hh
              rw [if_neg hh] at hnx
              obtain rfl := Option.some.inj hnx
              refine At.mk' [10, 35, 36, 37] (i + 1, a.t) ⟨⟨hlt2, hg'⟩, by show z1.al.length - (i + 1) < z1.al.length - i; omega⟩ ⟨?_, rfl⟩ rfl rfl (by simp) (by simp) (by decide)
              rw [wr]
          · have hx0 : a.x ≠ 0 := by simpa using hx0
            rw [if_neg hx0] at hnx
            refine brc_intro (fun hy0 => ?_) (fun hy0 => ?_)
            · have hy0 : a.y = 0 := by simpa using hy0
              rw [if_pos hy0] at hnx
              refine brc_intro (fun hh => ?_) (fun hh => ?_)
              · have hh : g ≠ a.t := by simpa using hh
                rw [if_neg hh] at hnx
                cases hnx
              · have hh : g = a.t := by simpa using hh
                rw [if_pos hh] at hnx
                obtain rfl := Option.some.inj hnx
                refine At.mk' [10, 35, 36, 37] (i + 1, -1) ⟨⟨hlt2, hg'⟩, by show z1.al.length - (i + 1) < z1.al.length - i; omega⟩ ⟨?_, rfl⟩ rfl rfl (by simp) (by simp) (by decide)
                rw [wr]
            · have hy0 : a.y ≠ 0 := by simpa using hy0
              rw [if_neg hy0] at hnx
              refine brc_intro (fun h1 => ?_) (fun h1 => ?_)
              · have h1 : a.x ≠ 1 := by simpa using h1
                rw [if_neg (fun h => h1 h.1)] at hnx
                cases hnx
              · have h1 : a.x = 1 := by simpa using h1
                refine brc_intro (fun h2 => ?_) (fun h2 => ?_)
                · have h2 : a.y ≠ 2 := by simpa using h2
                  rw [if_neg (fun h => h2 h.2.1)] at hnx
                  cases hnx
                · have h2 : a.y = 2 := by simpa using h2
                  refine brc_intro (fun h3 => ?_) (fun h3 => ?_)
                  · have h3 : g = a.t := by simpa using h3
                    rw [if_neg (fun h => h.2.2 h3)] at hnx
                    cases hnx
                  · have h3 : g ≠ a.t := by simpa using h3
                    rw [if_pos ⟨h1, h2, h3⟩] at hnx
                    obtain rfl := Option.some.inj hnx
                    refine At.mk' [10, 35, 36, 37] (i + 1, g') ⟨⟨hlt2, hg'⟩, by show z1.al.length - (i + 1) < z1.al.length - i; omega⟩ ⟨?_, rfl⟩ rfl rfl (by simp) (by simp) (by decide)
                    rw [wr]
    · exact rfl
  · obtain ⟨w, t0, hJ⟩ := hI
    have hal1 := hw.al
    have hk1 := hw.k
    have hfo := hJ.fo
    change Does Tryd.prog 25 _ _ _
    refine Does.on 13 [4, 5, 6, 7, 8, 9, 10, 11, 12] _ _ (coreActs (m := z) (v := v) (by omega) ?_)
    refine SS.loop (fun p : Nat × Int => p.1 ≤ z.al.length ∧ holdZ (z.al.take p.1) = some p.2) (fun p => [(10, i64 p.2), (35, cv (.slc 13 0 z.al.length none false)), (36, i64 z.al.length), (37, i64 p.1)])
      (fun _ => [.rows true 2 (ms.map rowMove), rtH, callsH false calls, .rows false 1 [rowU 0]] ++ machS 4 z v ++ [.rows false 6 (z.al.map rowAct)]) (fun p => z.al.length - p.1) [2, 10, 11, 12]
      (At.mk' [10, 35, 36, 37] (0, -1) ⟨by simp, rfl⟩ ⟨rfl, rfl⟩ rfl rfl (by simp) (by simp) (by decide)) ?_
    rintro ⟨i, g⟩ ⟨hi, hg⟩
    change i ≤ z.al.length at hi
    change holdZ (z.al.take i) = some g at hg
    refine S_r ?_
    refine brc_intro (fun hlt => ?_) (fun hlt => ?_)
    · have hlt2 : i < z.al.length := by
        have := of_decide_eq_true hlt
        have : (i : Int) < (z.al.length : Int) := this
        omega
      obtain ⟨a, ha⟩ : ∃ a, z.al[i]? = some a := ⟨_, List.getElem?_eq_getElem hlt2⟩
      have hnx := holdZ_take z.al i a ha
      obtain ⟨g', hg'⟩ := holdZ_pre hfo (i + 1)
      rw [hg', hg, holdS] at hnx
      have wr : IntKind.i64.wrap ((i : Int) + 1) = ((i + 1 : Nat) : Int) := wrap_i64 _ (by omega) (by omega)
      refine SS.inlR ?_
      refine at2 (a := (0 : Int) ≤ (i : Int)) (b := (i : Int) < (z.al.length : Int)) (by omega) (by omega) (rdA (rowAct a) (gAct ha) ?_)
      refine brc_intro (fun h9 => ?_) (fun h9 => ?_)
      · have h9 : a.o ≠ 9 := by simpa using h9
        rw [if_pos (.inl h9)] at hnx
        obtain rfl := Option.some.inj hnx
        refine At.mk' [10, 35, 36, 37] (i + 1, g') ⟨⟨hlt2, hg'⟩, by show z.al.length - (i + 1) < z.al.length - i; omega⟩ ⟨?_, rfl⟩ rfl rfl (by simp) (by simp) (by decide)
        rw [wr]
      · have h9 : a.o = 9 := by simpa using h9
        refine brc_intro (fun hxy => ?_) (fun hxy => ?_)
        · have hxy : a.x = a.y := by simpa using hxy
          rw [if_pos (.inr hxy)] at hnx
          obtain rfl := Option.some.inj hnx
          refine At.mk' [10, 35, 36, 37] (i + 1, g') ⟨⟨hlt2, hg'⟩, by show z.al.length - (i + 1) < z.al.length - i; omega⟩ ⟨?_, rfl⟩ rfl rfl (by simp) (by simp) (by decide)
          rw [wr]
        · have hxy : a.x ≠ a.y := by simpa using hxy
          rw [if_neg (fun h => h.elim (fun h => h h9) hxy)] at hnx
          refine brc_intro (fun hx0 => ?_) (fun hx0 => ?_)
          · have hx0 : a.x = 0 := by simpa using hx0
            rw [if_pos hx0] at hnx
            refine brc_intro (fun hh => ?_) (fun hh => ?_)
            · have hh : 0 ≤ g := of_decide_eq_true hh
              rw [if_pos hh] at hnx
              cases hnx
            · have hh : ¬ 0 ≤ g := of_decide_eq_false hh
              rw [if_neg hh] at hnx
              obtain rfl := Option.some.inj hnx
              refine At.mk' [10, 35, 36, 37] (i + 1, a.t) ⟨⟨hlt2, hg'⟩, by show z.al.length - (i + 1) < z.al.length - i; omega⟩ ⟨?_, rfl⟩ rfl rfl (by simp) (by simp) (by decide)
              rw [wr]
          · have hx0 : a.x ≠ 0 := by simpa using hx0
            rw [if_neg hx0] at hnx
            refine brc_intro (fun hy0 => ?_) (fun hy0 => ?_)
            · have hy0 : a.y = 0 := by simpa using hy0
              rw [if_pos hy0] at hnx
              refine brc_intro (fun hh => ?_) (fun hh => ?_)
              · have hh : g ≠ a.t := by simpa using hh
                rw [if_neg hh] at hnx
                cases hnx
              · have hh : g = a.t := by simpa using hh
                rw [if_pos hh] at hnx
                obtain rfl := Option.some.inj hnx
                refine At.mk' [10, 35, 36, 37] (i + 1, -1) ⟨⟨hlt2, hg'⟩, by show z.al.length - (i + 1) < z.al.length - i; omega⟩ ⟨?_, rfl⟩ rfl rfl (by simp) (by simp) (by decide)
                rw [wr]
            · have hy0 : a.y ≠ 0 := by simpa using hy0
              rw [if_neg hy0] at hnx
              refine brc_intro (fun h1 => ?_) (fun h1 => ?_)
              · have h1 : a.x ≠ 1 := by simpa using h1
                rw [if_neg (fun h => h1 h.1)] at hnx
                cases hnx
              · have h1 : a.x = 1 := by simpa using h1
                refine brc_intro (fun h2 => ?_) (fun h2 => ?_)
                · have h2 : a.y ≠ 2 := by simpa using h2
                  rw [if_neg (fun h => h2 h.2.1)] at hnx
                  cases hnx
                · have h2 : a.y = 2 := by simpa using h2
                  refine brc_intro (fun h3 => ?_) (fun h3 => ?_)
                  · have h3 : g = a.t := by simpa using h3
                    rw [if_neg (fun h => h.2.2 h3)] at hnx
                    cases hnx
                  · have h3 : g ≠ a.t := by simpa using h3
                    rw [if_pos ⟨h1, h2, h3⟩] at hnx
                    obtain rfl := Option.some.inj hnx
                    refine At.mk' [10, 35, 36, 37] (i + 1, g') ⟨⟨hlt2, hg'⟩, by show z.al.length - (i + 1) < z.al.length - i; omega⟩ ⟨?_, rfl⟩ rfl rfl (by simp) (by simp) (by decide)
                    rw [wr]
    · exact rfl

end Go.Mac
