/- A semaphore: never fewer than none. -/
import Derived.Test.YtfgmlilpojnnhaaDoorQCounted
import Derived.Test.YtfgmlilpojnnhaaDoorQStep
open Go Go.Proofs Go.Mac
set_option maxRecDepth 100000
namespace Go.Mac

theorem leftZ_take (f : Int) (l : List ActZ) (i : Nat) (a : ActZ) (h : l[i]? = some a) : leftZ f (l.take (i + 1)) = leftS (leftZ f (l.take i)) a := by
  rw [List.take_add_one, h]
  exact leftZ_snoc _ _ _

theorem leftZ_none (l : List ActZ) : l.foldl leftS none = none := by
  induction l with
  | nil => rfl
  | cons a l ih => rw [List.foldl_cons]; exact ih

theorem leftZ_pre {f : Int} {l : List ActZ} {h : Int} (hl : leftZ f l = some h) (i : Nat) : ∃ g, leftZ f (l.take i) = some g := by
  cases hg : leftZ f (l.take i) with
  | some g => exact ⟨g, rfl⟩
  | none =>
    exfalso
    have : leftZ f l = (l.drop i).foldl leftS (leftZ f (l.take i)) := by
      rw [leftZ, leftZ, ← List.foldl_append, List.take_append_drop]
    rw [hg, leftZ_none, hl] at this
    cases this

theorem leftF_bound : ∀ (l : List ActZ) (g g' : Int), l.foldl leftS (some g) = some g' → 0 ≤ g → 0 ≤ g' ∧ g' ≤ g + l.length
  | [], g, g', h, h0 => by
    obtain rfl := Option.some.inj (show some g = some g' from h)
    simp [h0]
  | a :: l, g, g', h, h0 => by
    rw [List.foldl_cons, leftS] at h
    try dsimp only at h
    generalize hq : (if a.o = 9 ∧ a.x ≠ a.y then (if a.o = 8 then g + 1 else g) - 1 else (if a.o = 8 then g + 1 else g)) = q at h
    have hq1 : q ≤ g + 1 := by subst hq; split <;> split <;> omega
    split at h
    · rw [leftZ_none] at h; cases h
    · have := leftF_bound l q g' h (by omega)
      rw [List.length_cons]
      omega

theorem gActB {l : List ActZ} {i : Nat} {x : ActZ} (h : l[i]? = some x) : (l.map rowAct)[0 + Int.toNat (i : Int)]? = some (rowAct x) := by simp [h]

theorem semaBound (l : List (List Int)) (_hw : ∀ xs ∈ l, ∀ x ∈ xs, -9223372036854775808 ≤ x ∧ x ≤ 9223372036854775807) (hl : l.length ≤ 9223372036854775807) (hm : ∀ xs ∈ l, xs.length ≤ 9223372036854775807) (a : Int) (_ha : -9223372036854775808 ≤ a ∧ a ≤ 9223372036854775807) (ms : List MoveZ) :
    Does Tryd.prog 6 [cv (.slc 0 0 l.length none false), i64 a, cv (.slc 1 0 ms.length none false)] [.rows2 true 1 (l.map fun xs => xs.map rowZ), .rows true 2 (ms.map rowMove), rtH] fun v _ _ => v = bl true := by
  refine does Tryd.func6 rfl (by decide) ?_
  change Does Tryd.prog 26 _ _ _
  refine Does.alone 3 (counted ?_)
  refine brc_intro (fun _ => rfl) (fun h => ?_)
  have hms : ms.length ≤ 400 := by
    have := of_decide_eq_false h
    omega
  change Does Tryd.prog 16 _ _ _
  refine Does.alone 3 (pick a 5 (by decide) ?_)
  have hpa := pickZ_lt a (n := 5) (by decide)
  obtain ⟨f, hf⟩ := Int.eq_ofNat_of_zero_le hpa.1
  rw [hf]
  have hf5 : f < 5 := by omega
  clear hf hpa
  change Does Tryd.prog 27 _ _ _
  refine Does.on 4 [0, 3] _ _ (asks (l := l) (ofs := [3, 4]) (k := 2) rfl rfl (by decide) hl hm ?_)
  have hn : (asksZ [3, 4] l).length = min l.length 8 := asksZ_len' _ _
  have hfit : ∀ x ∈ asksZ [3, 4] l, ∀ c ∈ x, semaFit c := fun x hx => by
    rw [asksZ] at hx
    obtain ⟨y, _, rfl⟩ := List.mem_map.1 hx
    exact asks_fit [3, 4] y (by decide) (by decide)
  have hl12 : ∀ x ∈ asksZ [3, 4] l, x.length ≤ 12 := fun x hx => by
    rw [asksZ] at hx
    obtain ⟨y, _, rfl⟩ := List.mem_map.1 hx
    exact Nat.le_trans (askL_len' _ _) (by decide)
  generalize asksZ [3, 4] l = calls at hn hfit hl12
  have hn8 : min l.length 8 ≤ 8 := by omega
  generalize min l.length 8 = n at hn hn8
  have hI := fun ms => sem_moves (ll := calls.map fun l => l.map gives) (by rw [List.length_map]; omega) (fun l hl => by
    obtain ⟨k, hk, rfl⟩ := List.mem_map.1 hl
    rw [List.length_map]; exact hl12 k hk) (f := f) (by omega) ms
  rw [← semM_calls] at hI
  obtain ⟨z, hz⟩ : ∃ z, mz0 (calls.map semaP) [(f : Int)] = z := ⟨_, rfl⟩
  rw [hz] at hI
  have hu : IntKind.u64.wrap (f : Int) = f := wrap_u64 _ (by omega) (by omega)
  change Does Tryd.prog 17 _ _ _
  rw [hu]
  refine Does.nilArg4 2 (by decide) ?_
  refine Does.on 7 [4, 5, 6] _ _ (made (ls := calls) (ps := calls.map semaP) (ws := [(f : Int)]) (ms := []) (f := 28) (n := n) (nc := 1) (k := 0) (ro := false) (ro2 := false) (ro3 := false) hn (by rw [List.length_map]; exact hn) rfl rfl (by omega) (by decide) (by decide) (sema_rights hl12) (fun v hv => by obtain rfl := List.mem_singleton.1 hv; omega) (hz := hz) (fun i l p hl hp K' hK' => ?_) fun v hv hw => ?_)
  · obtain rfl : semaP l = p := by
      rw [List.getElem?_map, hl] at hp
      exact Option.some.inj hp
    exact semaCode' i i l hl (hl12 l (List.mem_of_getElem? hl)) (hfit l (List.mem_of_getElem? hl)) hK'
  · refine SS.loop (fun p : Nat × VZ => p.1 ≤ ms.length ∧ okV p.2) (fun p => [(1, i64 f), (8, cv (.ptr 7 0)), (32, cv (.slc 1 0 ms.length none false)), (33, i64 ms.length), (34, i64 p.1)])
      (fun p => [.rows2 true 1 (l.map fun xs => xs.map rowZ), .rows true 2 (ms.map rowMove), rtH, .rows false 1 [rowZ 3, rowZ 4], callsH false calls, .rows false 1 [rowU f], .rows false 2 []] ++ machS 7 (movesZ z (ms.take p.1)) p.2) (fun p => ms.length - p.1) [4, 13, 14, 15]
      (At.mk' [1, 8, 32, 33, 34] (0, v) ⟨by simp, hv⟩ ⟨rfl, rfl⟩ rfl rfl (by simp) (by simp) (by decide)) ?_
    rintro ⟨i, v1⟩ ⟨hik, hv1⟩
    change i ≤ ms.length at hik
    change okV v1 at hv1
    refine S_r ?_
    refine brc_intro (fun hlt => ?_) (fun hlt => ?_)
    · have hlt : i < ms.length := by
        have := of_decide_eq_true hlt
        have : (i : Int) < (ms.length : Int) := this
        omega
      have hlt0 := hlt
      obtain ⟨x, hx⟩ : ∃ x, ms[i]? = some x := ⟨_, List.getElem?_eq_getElem (by omega)⟩
      have hw1 := hw.moves (ms.take i)
      have hnx := movesZ_take z ms i x hx
      have hxm : (ms.map rowMove)[0 + Int.toNat (i : Int)]? = some (rowMove x) := by simp [hx]
      refine SS.seq (SS.block ?_)
      refine SS.stepR ?_
      refine at2 (a := (0 : Int) ≤ (i : Int)) (b := (i : Int) < (ms.length : Int)) (by omega) (by omega) (rdA (rowMove x) hxm ?_)
      refine SS.cut (fun v : VZ => okV v) (fun v => [(1, i64 f), (8, cv (.ptr 7 0)), (32, cv (.slc 1 0 ms.length none false)), (33, i64 ms.length), (34, i64 i)])
        (fun v => [.rows2 true 1 (l.map fun xs => xs.map rowZ), .rows true 2 (ms.map rowMove), rtH, .rows false 1 [rowZ 3, rowZ 4], callsH false calls, .rows false 1 [rowU f], .rows false 2 []] ++ machS 7 (movesZ z (ms.take (i + 1))) v) [4, 13, 14, 15] ?_ ?_
      · refine S_r ?_
        refine brc_intro (fun hp => ?_) (fun hp => ?_)
        · rw [moveZ, if_pos (show x.pk = true from hp)] at hnx
          change Does Tryd.prog 30 _ _ _
          refine Does.on 17 [7, 8, 9, 10, 11, 12, 13, 14, 15] _ _ (corePoke (m := movesZ z (ms.take i)) (v := v1) hw1 hv1 x.th (fun v' hv' => ?_) fun e v' hv' => ?_)
          all_goals
            rw [← hnx]
            exact At.mk' [1, 8, 32, 33, 34] v' hv' ⟨rfl, rfl⟩ rfl rfl (by simp) (by simp) (by decide)
        · rw [moveZ, if_neg (show ¬ x.pk = true from fun h => by rw [show x.pk = false from hp] at h; cases h)] at hnx
          change Does Tryd.prog 31 _ _ _
          refine Does.on 17 [7, 8, 9, 10, 11, 12, 13, 14, 15] _ _ (coreStep (m := movesZ z (ms.take i)) (v := v1) hw1 hv1 x.th (fun _ v' hv' => ?_) fun _ v' hv' => ?_)
          all_goals
            rw [← hnx]
            exact At.mk' [1, 8, 32, 33, 34] v' hv' ⟨rfl, rfl⟩ rfl rfl (by simp) (by simp) (by decide)
      · intro v2 hv2
        change okV v2 at hv2
        obtain ⟨gs, u, hJ⟩ := hI (ms.take (i + 1))
        have hw2 := hw.moves (ms.take (i + 1))
        have hfo := hJ.fo
        have hws := hJ.sys.ws
        have hu0 := hJ.v0
        clear hJ hnx
        generalize hz1 : movesZ z (ms.take (i + 1)) = z1 at hfo hws hu0 hw2
        have hal1 := hw2.al
        have hk1 := hw2.k
        refine S_r ?_
        change Does Tryd.prog 25 _ _ _
        refine Does.on 16 [7, 8, 9, 10, 11, 12, 13, 14, 15] _ _ (coreActs (m := z1) (v := v2) (by omega) ?_)
        refine SS.loop (fun p : Nat × Int => p.1 ≤ z1.al.length ∧ leftZ f (z1.al.take p.1) = some p.2) (fun p => [(1, i64 f), (8, cv (.ptr 7 0)), (11, i64 p.2), (32, cv (.slc 1 0 ms.length none false)), (33, i64 ms.length), (34, i64 i), (50, cv (.slc 16 0 z1.al.length none false)), (51, i64 z1.al.length), (52, i64 p.1)])
          (fun _ => [.rows2 true 1 (l.map fun xs => xs.map rowZ), .rows true 2 (ms.map rowMove), rtH, .rows false 1 [rowZ 3, rowZ 4], callsH false calls, .rows false 1 [rowU f], .rows false 2 []] ++ machS 7 z1 v2 ++ [.rows false 6 (z1.al.map rowAct)]) (fun p => z1.al.length - p.1) [4, 13, 14, 15]
          (At.mk' [1, 8, 11, 32, 33, 34, 50, 51, 52] (0, f) ⟨by simp, rfl⟩ ⟨rfl, rfl⟩ rfl rfl (by simp) (by simp) (by decide)) ?_
        rintro ⟨p, g⟩ ⟨hp, hg⟩
        change p ≤ z1.al.length at hp
        change leftZ f (z1.al.take p) = some g at hg
        refine S_r ?_
        refine brc_intro (fun hlt => ?_) (fun hlt => ?_)
        · have hlt2 : p < z1.al.length := by
            have := of_decide_eq_true hlt
            have : (p : Int) < (z1.al.length : Int) := this
            omega
          obtain ⟨a, ha⟩ : ∃ a, z1.al[p]? = some a := ⟨_, List.getElem?_eq_getElem hlt2⟩
          have hnx := leftZ_take f z1.al p a ha
          obtain ⟨g', hg'⟩ := leftZ_pre hfo (p + 1)
          rw [hg', hg, leftS] at hnx
          try dsimp only at hnx
          have hgb := leftF_bound _ _ _ hg (by omega)
          rw [List.length_take] at hgb
          have wr : IntKind.i64.wrap ((p : Int) + 1) = ((p + 1 : Nat) : Int) := wrap_i64 _ (by omega) (by omega)
          have wg : IntKind.i64.wrap (g + 1) = g + 1 := wrap_i64 _ (by omega) (by omega)
          have ws : IntKind.i64.wrap (g - 1) = g - 1 := wrap_i64 _ (by omega) (by omega)
          refine SS.inlR ?_
          refine at2 (a := (0 : Int) ≤ (p : Int)) (b := (p : Int) < (z1.al.length : Int)) (by omega) (by omega) (rdA (rowAct a) (gActB ha) ?_)
          refine brc_intro (fun h8 => ?_) (fun h8 => ?_)
          · have h8 : a.o = 8 := by simpa using h8
            rw [if_neg (show ¬ (a.o = 9 ∧ a.x ≠ a.y) from fun h => absurd h.1 (by omega)), if_pos h8, if_neg (show ¬ g + 1 < 0 by omega)] at hnx
            obtain rfl := Option.some.inj hnx
            refine brc_intro (fun h9 => ?_) (fun _ => ?_)
            · exact absurd (show a.o = 9 by simpa using h9) (by omega)
            · skip
              refine brc_intro (fun hn => ?_) (fun _ => ?_)
              · have hn := of_decide_eq_true hn
                have hn : IntKind.i64.wrap (g + 1) < 0 := hn
                rw [wg] at hn
                omega
              · refine At.mk' [1, 8, 11, 32, 33, 34, 50, 51, 52] (p + 1, g + 1) ⟨⟨hlt2, hg'⟩, by show z1.al.length - (p + 1) < z1.al.length - p; omega⟩ ⟨?_, rfl⟩ rfl rfl (by simp) (by simp) (by decide)
                rw [wr, wg]
          · have h8 : a.o ≠ 8 := by simpa using h8
            refine brc_intro (fun h9 => ?_) (fun h9 => ?_)
            · have h9 : a.o = 9 := by simpa using h9
              refine brc_intro (fun hxy => ?_) (fun hxy => ?_)
              · have hxy : a.x ≠ a.y := by simpa using hxy
                rw [if_neg h8, if_pos (show a.o = 9 ∧ a.x ≠ a.y from ⟨h9, hxy⟩)] at hnx
                by_cases hq : g - 1 < 0
                · rw [if_pos hq] at hnx
                  cases hnx
                · rw [if_neg hq] at hnx
                  obtain rfl := Option.some.inj hnx
                  refine brc_intro (fun hn => ?_) (fun _ => ?_)
                  · have hn := of_decide_eq_true hn
                    have hn : IntKind.i64.wrap (g - 1) < 0 := hn
                    rw [ws] at hn
                    omega
                  · refine At.mk' [1, 8, 11, 32, 33, 34, 50, 51, 52] (p + 1, g - 1) ⟨⟨hlt2, hg'⟩, by show z1.al.length - (p + 1) < z1.al.length - p; omega⟩ ⟨?_, rfl⟩ rfl rfl (by simp) (by simp) (by decide)
                    rw [wr, ws]
              · have hxy : a.x = a.y := by simpa using hxy
                rw [if_neg h8, if_neg (show ¬ (a.o = 9 ∧ a.x ≠ a.y) from fun h => h.2 hxy), if_neg (show ¬ g < 0 by omega)] at hnx
                obtain rfl := Option.some.inj hnx
                refine brc_intro (fun hn => ?_) (fun _ => ?_)
                · have hn := of_decide_eq_true hn
                  have hn : g' < 0 := hn
                  omega
                · refine At.mk' [1, 8, 11, 32, 33, 34, 50, 51, 52] (p + 1, g') ⟨⟨hlt2, hg'⟩, by show z1.al.length - (p + 1) < z1.al.length - p; omega⟩ ⟨?_, rfl⟩ rfl rfl (by simp) (by simp) (by decide)
                  rw [wr]
            · have h9 : a.o ≠ 9 := by simpa using h9
              rw [if_neg h8, if_neg (show ¬ (a.o = 9 ∧ a.x ≠ a.y) from fun h => h9 h.1), if_neg (show ¬ g < 0 by omega)] at hnx
              obtain rfl := Option.some.inj hnx
              refine brc_intro (fun hn => ?_) (fun _ => ?_)
              · have hn := of_decide_eq_true hn
                have hn : g' < 0 := hn
                omega
              · refine At.mk' [1, 8, 11, 32, 33, 34, 50, 51, 52] (p + 1, g') ⟨⟨hlt2, hg'⟩, by show z1.al.length - (p + 1) < z1.al.length - p; omega⟩ ⟨?_, rfl⟩ rfl rfl (by simp) (by simp) (by decide)
                rw [wr]
        · have hlt : ¬ (p : Int) < (z1.al.length : Int) := of_decide_eq_false hlt
          obtain rfl : p = z1.al.length := by omega
          rw [List.take_length, hfo] at hg
          obtain rfl := Option.some.inj hg
          change Does Tryd.prog 23 _ _ _
          refine Does.on 17 [7, 8, 9, 10, 11, 12, 13, 14, 15] _ _ (coreCellsL (m := z1) (v := v2) hw2 hws ?_)
          have wu : IntKind.i64.wrap u = u := wrap_i64 _ (by omega) (by omega)
          refine at2 (by simp) (by simp) (rd1 (rowU u) (.int .u64 u) rfl rfl ?_)
          refine brc_intro (fun hne => ?_) (fun _ => ?_)
          · have hne : (IntKind.i64.wrap u != u) = true := hne
            rw [wu] at hne
            simp at hne
          · refine S_r ?_
            refine At.mk' [1, 8, 32, 33, 34] (i + 1, v2) ⟨⟨hlt0, hv2⟩, by show ms.length - (i + 1) < ms.length - i; omega⟩ ⟨?_, rfl⟩ ?_ rfl (by simp) (by simp) (by decide)
            · rw [wrap_i64 (i + 1) (by omega) (by omega)]
              rfl
            · subst hz1
              rfl
    · exact rfl

end Go.Mac
