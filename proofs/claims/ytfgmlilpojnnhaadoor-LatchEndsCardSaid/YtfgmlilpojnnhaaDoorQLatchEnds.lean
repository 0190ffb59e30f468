/- A latch: who waits goes on where it was counted down so often. -/
import Derived.Test.YtfgmlilpojnnhaaDoorQLatched
open Go Go.Proofs Go.Mac
set_option maxRecDepth 100000
namespace Go.Mac

theorem cnt_downs (l : List CallZ) (h : ∀ c ∈ l, latchFit c) : cnt true (l.map downs) 0 = countL 1 l := by
  rw [cnt, List.drop_zero, countL, List.count_eq_countP, List.countP_map, List.countP_eq_length_filter]
  congr 1
  refine List.filter_congr fun c hc => ?_
  have := (h c hc).1
  rcases this with h | h <;> simp [downs, h]

theorem sums_downs (ls : List (List CallZ)) (h : ∀ l ∈ ls, ∀ c ∈ l, latchFit c) : rsum (ls.map fun l => l.map downs).length (fun t => cnt true (lsF (ls.map fun l => l.map downs) t) 0) = countZ 1 ls := by
  have : rsum (ls.map fun l => l.map downs).length (fun t => cnt true (lsF (ls.map fun l => l.map downs) t) 0) = ((ls.map fun l => l.map downs).map fun l => cnt true l 0).sum := by
    rw [rsum]
    congr 1
    refine List.ext_getElem (by simp) fun i h1 h2 => ?_
    have hi : i < (ls.map fun l => l.map downs).length := by simpa using h1
    rw [List.getElem_map, List.getElem_range, List.getElem_map]
    rw [lsF, List.getD_eq_getElem?_getD, List.getElem?_eq_getElem hi]
    rfl
  rw [this, List.map_map, countZ]
  congr 1
  exact List.map_congr_left fun l hl => cnt_downs l (h l hl)

theorem countZ_appL (w : Int) (a b : List (List CallZ)) : countZ w (a ++ b) = countZ w a + countZ w b := by simp [countZ]

theorem countZ_noneL {w : Int} : ∀ (a : List (List CallZ)), (∀ l ∈ a, ∀ c ∈ l, c.w ≠ w) → countZ w a = 0
  | [], _ => rfl
  | x :: xs, h => by
    have h1 : countL w x = 0 := by
      rw [countL, List.length_eq_zero_iff, List.filter_eq_nil_iff]
      intro c hc
      simpa using h x (by simp) c hc
    have h2 := countZ_noneL xs fun l hl => h l (by simp [hl])
    rw [countZ] at h2 ⊢
    rw [List.map_cons, List.sum_cons, h1, h2]

theorem countZ_zeroL {w : Int} : ∀ (a : List (List CallZ)), countZ w a = 0 → ∀ l ∈ a, ∀ c ∈ l, c.w ≠ w
  | x :: xs, h, l, hl, c, hc => by
    rw [countZ, List.map_cons, List.sum_cons] at h
    rcases List.mem_cons.1 hl with rfl | hl
    · intro e
      have : 0 < countL w l := List.length_pos_of_mem (List.mem_filter.2 ⟨hc, by simp [e]⟩)
      omega
    · exact countZ_zeroL xs (by rw [countZ]; omega) l hl c hc

theorem countZ_leL (w : Int) : ∀ (a : List (List CallZ)), (∀ l ∈ a, l.length ≤ 12) → countZ w a ≤ 12 * a.length
  | [], _ => Nat.le_refl _
  | x :: xs, h => by
    have h1 : countL w x ≤ x.length := List.length_filter_le _ _
    have h2 := countZ_leL w xs fun l hl => h l (by simp [hl])
    have h3 := h x (by simp)
    rw [countZ] at h2 ⊢
    rw [List.map_cons, List.sum_cons, List.length_cons]
    omega

theorem latchEnds (l : List (List Int)) (_hw : ∀ xs ∈ l, ∀ x ∈ xs, -9223372036854775808 ≤ x ∧ x ≤ 9223372036854775807) (hl : l.length ≤ 9223372036854775807) (hm : ∀ xs ∈ l, xs.length ≤ 9223372036854775807) (a : Int) (_ha : -9223372036854775808 ≤ a ∧ a ≤ 9223372036854775807) (b : Int) (_hb : -9223372036854775808 ≤ b ∧ b ≤ 9223372036854775807) (ms : List MoveZ) :
    Does Tryd.prog 8 [cv (.slc 0 0 l.length none false), i64 a, i64 b, cv (.slc 1 0 ms.length none false)] [.rows2 true 1 (l.map fun xs => xs.map rowZ), .rows true 2 (ms.map rowMove), rtH] fun v _ _ => v = bl true := by
  refine does Tryd.func8 rfl (by decide) ?_
  change Does Tryd.prog 32 _ _ _
  refine Does.alone 3 (latched ?_)
  refine brc_intro (fun _ => rfl) (fun h => ?_)
  have hms : ms.length ≤ 500 := by
    have := of_decide_eq_false h
    omega
  change Does Tryd.prog 16 _ _ _
  refine Does.alone 3 (pick a 12 (by decide) ?_)
  change Does Tryd.prog 16 _ _ _
  refine Does.alone 3 (pick b 13 (by decide) ?_)
  have hpa := pickZ_lt a (n := 12) (by decide)
  have hpb := pickZ_lt b (n := 13) (by decide)
  rw [wrap_i64 (1 + pickZ a 12) (by omega) (by omega)]
  obtain ⟨f, hf⟩ := Int.eq_ofNat_of_zero_le (show 0 ≤ 1 + pickZ a 12 by omega)
  obtain ⟨g, hg⟩ := Int.eq_ofNat_of_zero_le hpb.1
  rw [hf, hg]
  have hf1 : 1 ≤ f ∧ f ≤ 12 := by omega
  have hg13 : g ≤ 12 := by omega
  clear hf hg hpa hpb
  change Does Tryd.prog 27 _ _ _
  refine Does.on 4 [0, 3] _ _ (asks (l := l) (ofs := [2]) (k := 1) rfl rfl (by decide) hl hm ?_)
  have hn : (asksZ [2] l).length = min l.length 8 := asksZ_lenL _ _
  have hfit : ∀ x ∈ asksZ [2] l, ∀ c ∈ x, latchFit c := fun x hx => by
    rw [asksZ] at hx
    obtain ⟨y, _, rfl⟩ := List.mem_map.1 hx
    exact asks_fitL [2] y (by decide) (by decide)
  have hl12 : ∀ x ∈ asksZ [2] l, x.length ≤ 12 := fun x hx => by
    rw [asksZ] at hx
    obtain ⟨y, _, rfl⟩ := List.mem_map.1 hx
    exact Nat.le_trans (askL_lenL _ _) (by decide)
  have h3 : ∀ x ∈ asksZ [2] l, ∀ c ∈ x, c.w = 2 := fun x hx c hc => by
    rw [asksZ] at hx
    obtain ⟨y, _, rfl⟩ := List.mem_map.1 hx
    obtain ⟨n, _, rfl⟩ := List.mem_map.1 hc
    have hp := pickZ_lt n (n := 1) (by decide)
    show [(2 : Int)].getD (pickZ n 1).toNat 0 = 2
    rw [show (pickZ n 1).toNat = 0 by omega]; rfl
  generalize asksZ [2] l = calls at hn hfit hl12 h3
  have hn8 : min l.length 8 ≤ 8 := by omega
  generalize min l.length 8 = n at hn hn8
  refine SS.nil 10 2 (by decide) rfl ?_
  rw [show (if (12 : Int) < (g : Int) then (12 : Int) else (g : Int)) = (g : Int) from if_neg (by omega)]
  refine SS.loop (fun i : Nat => i ≤ g) (fun i => [(1, i64 f), (3, cv (.slc 1 0 ms.length none false)), (9, cv (.slc 4 0 n none false)), (10, cv (.slc 5 0 i none false)), (29, i64 g), (30, i64 i)])
    (fun i => [.rows2 true 1 (l.map fun xs => xs.map rowZ), .rows true 2 (ms.map rowMove), rtH, .rows false 1 [rowZ 2], callsH false calls, .rows false 2 ((List.replicate i (CallZ.mk 1 0)).map rowCallZ)]) (fun i => g - i) [3, 4, 5]
    (At.mk' [1, 3, 9, 10, 29, 30] 0 (by simp) ⟨rfl, rfl⟩ rfl rfl (by simp) (by simp) (by simp)) ?_
  intro i hi
  change i ≤ g at hi
  refine S_r ?_
  refine brc_intro (fun hlt => ?_) (fun hlt => ?_)
  · have hlt : i < g := by
      have := of_decide_eq_true hlt
      have : (i : Int) < (g : Int) := this
      omega
    refine And.intro (by simp) (Or.inl (And.intro rfl (And.intro (by simp) (And.intro (by show (i + 1) * 16 ≤ _; omega) (And.intro (by show i + 1 ≤ _; omega) ?_)))))
    refine At.mk' [1, 3, 9, 10, 29, 30] (i + 1) ⟨hlt, by omega⟩ ⟨?_, rfl⟩ ?_ rfl (by simp) (by simp) (by decide)
    · rw [wrap_i64 (i + 1) (by omega) (by omega)]
      rfl
    · rw [List.replicate_succ', List.map_append]
      rfl
  · have hlt : ¬ (i : Int) < (g : Int) := of_decide_eq_false hlt
    obtain rfl : i = g := by omega
    refine And.intro (by simp) (And.intro rfl (And.intro (by rw [List.length_map]; exact hn.symm) (at2 (by show (n + 1) * 24 ≤ _; omega) (by omega) ?_)))
    have e : (calls.map fun l => l.map rowCallZ) ++ [(List.replicate i (CallZ.mk 1 0)).map rowCallZ] = (calls ++ [List.replicate i (CallZ.mk 1 0)]).map fun l => l.map rowCallZ := by
      rw [List.map_append]
      rfl
    change Does Tryd.prog 17 _ _ _
    rw [e, wrap_u64 (f : Int) (by omega) (by omega)]
    have hn' : (calls ++ [List.replicate i (CallZ.mk 1 0)]).length = n + 1 := by rw [List.length_append, hn]; rfl
    have hmem : ∀ l ∈ calls ++ [List.replicate i (CallZ.mk 1 0)], l ∈ calls ∨ l = List.replicate i (CallZ.mk 1 0) := fun l hl => by
      rcases List.mem_append.1 hl with h | h
      · exact .inl h
      · exact .inr (List.mem_singleton.1 h)
    have hfit' : ∀ x ∈ calls ++ [List.replicate i (CallZ.mk 1 0)], ∀ c ∈ x, latchFit c := fun x hx c hc => by
      rcases hmem x hx with h | rfl
      · exact hfit x h c hc
      · obtain rfl := (List.mem_replicate.1 hc).2
        simp [latchFit]
    have hl12' : ∀ x ∈ calls ++ [List.replicate i (CallZ.mk 1 0)], x.length ≤ 12 := fun x hx => by
      rcases hmem x hx with h | rfl
      · exact hl12 x h
      · rw [List.length_replicate]; exact hg13
    have hpure : ∀ x ∈ calls ++ [List.replicate i (CallZ.mk 1 0)], (∀ b ∈ x.map downs, b = false) ∨ ∀ b ∈ x.map downs, b = true := fun x hx => by
      rcases hmem x hx with h | rfl
      · refine .inl fun b hb => ?_
        obtain ⟨c, hc, rfl⟩ := List.mem_map.1 hb
        rw [downs, h3 x h c hc]; rfl
      · refine .inr fun b hb => ?_
        obtain ⟨c, hc, rfl⟩ := List.mem_map.1 hb
        obtain rfl := (List.mem_replicate.1 hc).2
        rfl
    have h4 : countZ 1 (calls ++ [List.replicate i (CallZ.mk 1 0)]) = i := by
      rw [countZ_appL, countZ_noneL calls fun l hl c hc => by rw [h3 l hl c hc]; decide]
      simp [countZ, countL]
    generalize calls ++ [List.replicate i (CallZ.mk 1 0)] = calls2 at hn' hfit' hl12' hpure h4
    have hI := lat_moves (ll := calls2.map fun l => l.map downs) (by rw [List.length_map]; omega) (fun l hl => by
      obtain ⟨k, hk, rfl⟩ := List.mem_map.1 hl
      rw [List.length_map]; exact hl12' k hk) (f := f) (by omega) ms
    rw [sums_downs _ hfit', h4, ← latM_calls] at hI
    obtain ⟨z, hz⟩ : ∃ z, movesZ (mz0 (calls2.map latchP) [(f : Int)]) ms = z := ⟨_, rfl⟩
    rw [hz] at hI
    have hcb := countZ_leL 2 calls2 hl12'
    refine Does.on 8 [4, 7, 1] _ _ (made (ls := calls2) (ps := calls2.map latchP) (ws := [(f : Int)]) (ms := ms) (f := 33) (n := n + 1) (nc := 1) (ro := false) (ro2 := false) (ro3 := true) hn' (by rw [List.length_map]; exact hn') rfl rfl (by omega) (by decide) (by omega) (latch_rights hl12') (fun v hv => by obtain rfl := List.mem_singleton.1 hv; omega) (hz := hz) (fun i l p hl hp K' hK' => ?_) fun v hv hw => ?_)
    · obtain rfl : latchP l = p := by
        rw [List.getElem?_map, hl] at hp
        exact Option.some.inj hp
      exact latchCode' i i l hl (hl12' l (List.mem_of_getElem? hl)) (hfit' l (List.mem_of_getElem? hl)) hK'
    · change Does Tryd.prog 20 _ _ _
      refine Does.on 17 [8, 9, 10, 11, 12, 13, 14, 15, 16] _ _ (fairFinish (m := z) (v := v) hw hv fun v1 _ hv1 hw1 => ?_)
      obtain ⟨gs, u, hJ, hno⟩ := lat_fin hI (by omega)
      have hp : ∀ t, t < (calls2.map fun l => l.map downs).length → (∀ b ∈ lsF (calls2.map fun l => l.map downs) t, b = false) ∨ ∀ b ∈ lsF (calls2.map fun l => l.map downs) t, b = true := fun t ht => by
        obtain ⟨k, hk, e⟩ := List.mem_map.1 (lsF_mem ht)
        rw [← e]
        exact hpure k hk
      have hopen : (f ≤ i ∨ countZ 2 calls2 = 0) → allZ (finish z) = true ∧ stuckZ (finish z) = false := fun ha => lat_ends_open hJ hno hp (by
        rcases ha with ha | ha
        · exact .inl (by omega)
        · refine .inr fun t ht b hb => ?_
          obtain ⟨k, hk, e⟩ := List.mem_map.1 (lsF_mem ht)
          rw [← e] at hb
          obtain ⟨c, hc, rfl⟩ := List.mem_map.1 hb
          have := countZ_zeroL calls2 ha k hk c hc
          simp [downs, this])
      have hshut : ¬ (f ≤ i ∨ countZ 2 calls2 = 0) → allZ (finish z) = false ∧ stuckZ (finish z) = true := fun ha => lat_ends_shut hJ hno hp (by omega) (Classical.byContradiction fun hne => ha (.inr (countZ_noneL calls2 fun l hl c hc e => hne (by
        obtain ⟨t, ht⟩ := List.mem_iff_getElem?.1 hl
        have htl := (List.getElem?_eq_some_iff.1 ht).1
        refine ⟨t, by rw [List.length_map]; exact htl, ?_⟩
        rw [lsF, List.getD_eq_getElem?_getD, List.getElem?_map, ht]
        exact List.mem_map.2 ⟨c, hc, by simp [downs, e]⟩))))
      clear hJ hno
      generalize finish z = z1 at hw1 hopen hshut
      change Does Tryd.prog 21 _ _ _
      refine Does.on 17 [8, 9, 10, 11, 12, 13, 14, 15, 16] _ _ (coreEnds (m := z1) (v := v1) hw1 ?_)
      by_cases hA : f ≤ i ∨ countZ 2 calls2 = 0
      · obtain ⟨hall, hst⟩ := hopen hA
        rw [hall, hst]
        change Does Tryd.prog 29 _ _ _
        refine Does.on 17 [4] _ _ (count (ls := calls2) (w := 2) (n := n + 1) hn' (by omega) hl12' ?_)
        refine brc_intro (fun _ => rfl) (fun h1 => ?_)
        refine brc_intro (fun _ => rfl) (fun h2 => ?_)
        exfalso
        have h1 := of_decide_eq_false h1
        have h2 : 0 < countZ 2 calls2 := by simpa using h2
        rcases hA with hA | hA
        · exact h1 (by omega)
        · omega
      · obtain ⟨hall, hst⟩ := hshut hA
        rw [hall, hst]
        change Does Tryd.prog 29 _ _ _
        refine Does.on 17 [4] _ _ (count (ls := calls2) (w := 2) (n := n + 1) hn' (by omega) hl12' ?_)
        refine brc_intro (fun h1 => ?_) (fun h1 => ?_)
        · exfalso
          have h1 := of_decide_eq_true h1
          exact hA (.inl (by omega))
        · refine brc_intro (fun h2 => ?_) (fun _ => rfl)
          exfalso
          have h2 : countZ 2 calls2 = 0 := by
            have : ¬ (0 < countZ 2 calls2) := by simpa using h2
            omega
          exact hA (.inr h2)

end Go.Mac
