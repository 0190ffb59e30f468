/- A semaphore: as many as there are. -/
import Derived.Test.YtfgmlilpojnnhaaDoorQCounted
open Go Go.Proofs Go.Mac
set_option maxRecDepth 100000
namespace Go.Mac

theorem sums_true (ls : List (List CallZ)) : rsum (ls.map fun l => l.map gives).length (fun t => cnt true (lsF (ls.map fun l => l.map gives) t) 0) = countZ 4 ls := by
  rw [rsum_list (ls.map fun l => l.map gives) (fun l => cnt true l 0), List.map_map, countZ]
  congr 1
  exact List.map_congr_left fun l _ => cnt_true l

theorem sums_false (ls : List (List CallZ)) (h : ∀ l ∈ ls, ∀ c ∈ l, semaFit c) : rsum (ls.map fun l => l.map gives).length (fun t => cnt false (lsF (ls.map fun l => l.map gives) t) 0) = countZ 3 ls := by
  rw [rsum_list (ls.map fun l => l.map gives) (fun l => cnt false l 0), List.map_map, countZ]
  congr 1
  exact List.map_congr_left fun l hl => cnt_false l (h l hl)

theorem countZ_app (w : Int) (a b : List (List CallZ)) : countZ w (a ++ b) = countZ w a + countZ w b := by simp [countZ]

theorem countZ_none {w : Int} : ∀ (a : List (List CallZ)), (∀ l ∈ a, ∀ c ∈ l, c.w ≠ w) → countZ w a = 0
  | [], _ => rfl
  | x :: xs, h => by
    have h1 : countL w x = 0 := by
      rw [countL, List.length_eq_zero_iff, List.filter_eq_nil_iff]
      intro c hc
      simpa using h x (by simp) c hc
    have h2 := countZ_none xs fun l hl => h l (by simp [hl])
    rw [countZ] at h2 ⊢
    rw [List.map_cons, List.sum_cons, h1, h2]

theorem countZ_le (w : Int) : ∀ (a : List (List CallZ)), (∀ l ∈ a, l.length ≤ 12) → countZ w a ≤ 12 * a.length
  | [], _ => Nat.le_refl _
  | x :: xs, h => by
    have h1 : countL w x ≤ x.length := List.length_filter_le _ _
    have h2 := countZ_le w xs fun l hl => h l (by simp [hl])
    have h3 := h x (by simp)
    rw [countZ] at h2 ⊢
    rw [List.map_cons, List.sum_cons, List.length_cons]
    omega

theorem semaEnds (l : List (List Int)) (_hw : ∀ xs ∈ l, ∀ x ∈ xs, -9223372036854775808 ≤ x ∧ x ≤ 9223372036854775807) (hl : l.length ≤ 9223372036854775807) (hm : ∀ xs ∈ l, xs.length ≤ 9223372036854775807) (a : Int) (_ha : -9223372036854775808 ≤ a ∧ a ≤ 9223372036854775807) (b : Int) (_hb : -9223372036854775808 ≤ b ∧ b ≤ 9223372036854775807) (ms : List MoveZ) :
    Does Tryd.prog 5 [cv (.slc 0 0 l.length none false), i64 a, i64 b, cv (.slc 1 0 ms.length none false)] [.rows2 true 1 (l.map fun xs => xs.map rowZ), .rows true 2 (ms.map rowMove), rtH] fun v _ _ => v = bl true := by
  refine does Tryd.func5 rfl (by decide) ?_
  change Does Tryd.prog 26 _ _ _
  refine Does.alone 3 (counted ?_)
  refine brc_intro (fun _ => rfl) (fun h => ?_)
  have hms : ms.length ≤ 500 := by
    have := of_decide_eq_false h
    omega
  change Does Tryd.prog 16 _ _ _
  refine Does.alone 3 (pick a 5 (by decide) ?_)
  change Does Tryd.prog 16 _ _ _
  refine Does.alone 3 (pick b 13 (by decide) ?_)
  have hpa := pickZ_lt a (n := 5) (by decide)
  have hpb := pickZ_lt b (n := 13) (by decide)
  obtain ⟨f, hf⟩ := Int.eq_ofNat_of_zero_le hpa.1
  obtain ⟨g, hg⟩ := Int.eq_ofNat_of_zero_le hpb.1
  rw [hf, hg]
  have hf5 : f < 5 := by omega
  have hg13 : g ≤ 12 := by omega
  clear hf hg hpa hpb
  change Does Tryd.prog 27 _ _ _
  refine Does.on 4 [0, 3] _ _ (asks (l := l) (ofs := [3]) (k := 1) rfl rfl (by decide) hl hm ?_)
  have hn : (asksZ [3] l).length = min l.length 8 := asksZ_len' _ _
  have hfit : ∀ x ∈ asksZ [3] l, ∀ c ∈ x, semaFit c := fun x hx => by
    rw [asksZ] at hx
    obtain ⟨y, _, rfl⟩ := List.mem_map.1 hx
    exact asks_fit [3] y (by decide) (by decide)
  have hl12 : ∀ x ∈ asksZ [3] l, x.length ≤ 12 := fun x hx => by
    rw [asksZ] at hx
    obtain ⟨y, _, rfl⟩ := List.mem_map.1 hx
    exact Nat.le_trans (askL_len' _ _) (by decide)
  have h3 : ∀ x ∈ asksZ [3] l, ∀ c ∈ x, c.w = 3 := fun x hx c hc => by
    rw [asksZ] at hx
    obtain ⟨y, _, rfl⟩ := List.mem_map.1 hx
    obtain ⟨n, _, rfl⟩ := List.mem_map.1 hc
    have hp := pickZ_lt n (n := 1) (by decide)
    show [(3 : Int)].getD (pickZ n 1).toNat 0 = 3
    rw [show (pickZ n 1).toNat = 0 by omega]; rfl
  generalize asksZ [3] l = calls at hn hfit hl12 h3
  have hn8 : min l.length 8 ≤ 8 := by omega
  generalize min l.length 8 = n at hn hn8
  refine SS.nil 10 2 (by decide) rfl ?_
  rw [show (if (12 : Int) < (g : Int) then (12 : Int) else (g : Int)) = (g : Int) from if_neg (by omega)]
  refine SS.loop (fun i : Nat => i ≤ g) (fun i => [(1, i64 f), (3, cv (.slc 1 0 ms.length none false)), (9, cv (.slc 4 0 n none false)), (10, cv (.slc 5 0 i none false)), (30, i64 g), (31, i64 i)])
    (fun i => [.rows2 true 1 (l.map fun xs => xs.map rowZ), .rows true 2 (ms.map rowMove), rtH, .rows false 1 [rowZ 3], callsH false calls, .rows false 2 ((List.replicate i (CallZ.mk 4 0)).map rowCallZ)]) (fun i => g - i) [3, 4, 5]
    (At.mk' [1, 3, 9, 10, 30, 31] 0 (by simp) ⟨rfl, rfl⟩ rfl rfl (by simp) (by simp) (by simp)) ?_
  intro i hi
  change i ≤ g at hi
  refine S_r ?_
  refine brc_intro (fun hlt => ?_) (fun hlt => ?_)
  · have hlt : i < g := by
      have := of_decide_eq_true hlt
      have : (i : Int) < (g : Int) := this
      omega
    refine And.intro (by simp) (Or.inl (And.intro rfl (And.intro (by simp) (And.intro (by show (i + 1) * 16 ≤ _; omega) (And.intro (by show i + 1 ≤ _; omega) ?_)))))
    refine At.mk' [1, 3, 9, 10, 30, 31] (i + 1) ⟨hlt, by omega⟩ ⟨?_, rfl⟩ ?_ rfl (by simp) (by simp) (by decide)
    · rw [wrap_i64 (i + 1) (by omega) (by omega)]
      rfl
    · rw [List.replicate_succ', List.map_append]
      rfl
  · have hlt : ¬ (i : Int) < (g : Int) := of_decide_eq_false hlt
    obtain rfl : i = g := by omega
    refine And.intro (by simp) (And.intro rfl (And.intro (by rw [List.length_map]; exact hn.symm) (at2 (by show (n + 1) * 24 ≤ _; omega) (by omega) ?_)))
    have e : (calls.map fun l => l.map rowCallZ) ++ [(List.replicate i (CallZ.mk 4 0)).map rowCallZ] = (calls ++ [List.replicate i (CallZ.mk 4 0)]).map fun l => l.map rowCallZ := by
      rw [List.map_append]
      rfl
    change Does Tryd.prog 17 _ _ _
    rw [e, wrap_u64 (f : Int) (by omega) (by omega)]
    have hn' : (calls ++ [List.replicate i (CallZ.mk 4 0)]).length = n + 1 := by rw [List.length_append, hn]; rfl
    have hmem : ∀ l ∈ calls ++ [List.replicate i (CallZ.mk 4 0)], l ∈ calls ∨ l = List.replicate i (CallZ.mk 4 0) := fun l hl => by
      rcases List.mem_append.1 hl with h | h
      · exact .inl h
      · exact .inr (List.mem_singleton.1 h)
    have hfit' : ∀ x ∈ calls ++ [List.replicate i (CallZ.mk 4 0)], ∀ c ∈ x, semaFit c := fun x hx c hc => by
      rcases hmem x hx with h | rfl
      · exact hfit x h c hc
      · obtain rfl := (List.mem_replicate.1 hc).2
        simp [semaFit]
    have hl12' : ∀ x ∈ calls ++ [List.replicate i (CallZ.mk 4 0)], x.length ≤ 12 := fun x hx => by
      rcases hmem x hx with h | rfl
      · exact hl12 x h
      · rw [List.length_replicate]; exact hg13
    have hpure : ∀ x ∈ calls ++ [List.replicate i (CallZ.mk 4 0)], (∀ b ∈ x.map gives, b = false) ∨ ∀ b ∈ x.map gives, b = true := fun x hx => by
      rcases hmem x hx with h | rfl
      · refine .inl fun b hb => ?_
        obtain ⟨c, hc, rfl⟩ := List.mem_map.1 hb
        rw [gives, h3 x h c hc]; rfl
      · refine .inr fun b hb => ?_
        obtain ⟨c, hc, rfl⟩ := List.mem_map.1 hb
        obtain rfl := (List.mem_replicate.1 hc).2
        rfl
    have h4 : countZ 4 (calls ++ [List.replicate i (CallZ.mk 4 0)]) = i := by
      rw [countZ_app, countZ_none calls fun l hl c hc => by rw [h3 l hl c hc]; decide]
      simp [countZ, countL]
    generalize calls ++ [List.replicate i (CallZ.mk 4 0)] = calls2 at hn' hfit' hl12' hpure h4
    have hI := sem_moves (ll := calls2.map fun l => l.map gives) (by rw [List.length_map]; omega) (fun l hl => by
      obtain ⟨k, hk, rfl⟩ := List.mem_map.1 hl
      rw [List.length_map]; exact hl12' k hk) (f := f) (by omega) ms
    rw [sums_true, sums_false _ hfit', h4, ← semM_calls] at hI
    obtain ⟨z, hz⟩ : ∃ z, movesZ (mz0 (calls2.map semaP) [(f : Int)]) ms = z := ⟨_, rfl⟩
    rw [hz] at hI
    have hcb := countZ_le 3 calls2 hl12'
    refine Does.on 8 [4, 7, 1] _ _ (made (ls := calls2) (ps := calls2.map semaP) (ws := [(f : Int)]) (ms := ms) (f := 28) (n := n + 1) (nc := 1) (ro := false) (ro2 := false) (ro3 := true) hn' (by rw [List.length_map]; exact hn') rfl rfl (by omega) (by decide) (by omega) (sema_rights hl12') (fun v hv => by obtain rfl := List.mem_singleton.1 hv; omega) (hz := hz) (fun i l p hl hp K' hK' => ?_) fun v hv hw => ?_)
    · obtain rfl : semaP l = p := by
        rw [List.getElem?_map, hl] at hp
        exact Option.some.inj hp
      exact semaCode' i i l hl (hl12' l (List.mem_of_getElem? hl)) (hfit' l (List.mem_of_getElem? hl)) hK'
    · change Does Tryd.prog 20 _ _ _
      refine Does.on 17 [8, 9, 10, 11, 12, 13, 14, 15, 16] _ _ (fairFinish (m := z) (v := v) hw hv fun v1 _ hv1 hw1 => ?_)
      obtain ⟨gs, u, hJ, hno⟩ := sem_fin hI (by omega)
      obtain ⟨hall, hst, hu⟩ := sem_ends hJ hno fun t ht => by
        obtain ⟨k, hk, e⟩ := List.mem_map.1 (lsF_mem ht)
        rw [← e]
        exact hpure k hk
      have hws := hJ.sys.ws
      clear hJ hno
      generalize finish z = z1 at hw1 hws hall hst
      change Does Tryd.prog 21 _ _ _
      refine Does.on 17 [8, 9, 10, 11, 12, 13, 14, 15, 16] _ _ (coreEnds (m := z1) (v := v1) hw1 ?_)
      rw [hall, hst]
      change Does Tryd.prog 29 _ _ _
      refine Does.on 17 [4] _ _ (count (ls := calls2) (w := 3) (n := n + 1) hn' (by omega) hl12' ?_)
      generalize countZ 3 calls2 = k at hall hst hu hcb
      rw [hn'] at hcb
      change Does Tryd.prog 23 _ _ _
      rw [wrap_i64 ((f : Int) + i) (by omega) (by omega), wrap_i64 ((f : Int) + i - k) (by omega) (by omega)]
      refine Does.on 17 [8, 9, 10, 11, 12, 13, 14, 15, 16] _ _ (coreCellsL (m := z1) (v := v1) hw1 hws ?_)
      refine brc_intro (fun _ => ?_) (fun h1 => ?_)
      · refine brc_intro (fun _ => ?_) (fun h2 => ?_)
        · refine at2 (by simp) (by simp) (rd1 (rowU u) (.int .u64 u) rfl rfl ?_)
          refine fin ?_
          rw [wrap_i64 u (by omega) (by omega), beq_iff_eq]
          split <;> omega
        · exfalso
          change (decide ((f : Int) + i - k < 0) == decide ((f : Int) + i - k < 0)) = false at h2
          simp at h2
      · exfalso
        change (decide (0 ≤ (f : Int) + i - k) == decide ((f : Int) + i - k ≥ 0)) = false at h1
        simp at h1

end Go.Mac
