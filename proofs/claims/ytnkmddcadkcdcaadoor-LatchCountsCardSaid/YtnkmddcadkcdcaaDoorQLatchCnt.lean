/- Each count is told once, and what is left is what was there less the counts. -/
import Derived.Test.YtnkmddcadkcdcaaDoorQLatched
import Derived.Test.YtnkmddcadkcdcaaDoorQLatC
import Derived.Test.YtnkmddcadkcdcaaDoorQMapSet
open Go Go.Proofs Go.Mac
set_option maxRecDepth 100000
namespace Go.Mac

/-- Whose numbers are in the set: of those behind. -/
def Seen (own : Int → Nat × Nat) (es : MapZ) (t k : Nat) : Prop := ∃ L, MSet es L ∧ ∀ x ∈ L, x = 0 ∨ (own x).1 < t ∨ ((own x).1 = t ∧ (own x).2 < k)

theorem Seen.mono {own : Int → Nat × Nat} {es : MapZ} {t k k' : Nat} (h : Seen own es t k) (hk : k ≤ k') : Seen own es t k' := by
  obtain ⟨L, h1, h2⟩ := h
  exact ⟨L, h1, fun x hx => by have := h2 x hx; omega⟩

theorem Seen.next {own : Int → Nat × Nat} {es : MapZ} {t k : Nat} (h : Seen own es t k) : Seen own es (t + 1) 0 := by
  obtain ⟨L, h1, h2⟩ := h
  exact ⟨L, h1, fun x hx => by have := h2 x hx; omega⟩

theorem Seen.get {own : Int → Nat × Nat} {es : MapZ} {t k : Nat} (h : Seen own es t k) {u : Int} (h0 : 0 < u) (ho : own u = (t, k)) : mpGet es [u] = 0 := by
  obtain ⟨L, h1, h2⟩ := h
  rw [h1.get, if_neg]
  intro hm
  have := h2 u hm
  rw [ho] at this
  dsimp only at this
  omega

theorem Seen.put {own : Int → Nat × Nat} {es : MapZ} {t k : Nat} (h : Seen own es t k) {u : Int} (hu : u = 0 ∨ own u = (t, k)) (clk : Nat) : Seen own (mpPut es [u] 1 clk) t (k + 1) := by
  obtain ⟨L, h1, h2⟩ := h
  have hown : u = 0 ∨ (own u).1 < t ∨ ((own u).1 = t ∧ (own u).2 < k + 1) := by
    rcases hu with h | h
    · exact .inl h
    · rw [h]; exact .inr (.inr ⟨rfl, by show k < k + 1; omega⟩)
  by_cases hm : u ∈ L
  · exact ⟨L, h1.put_in hm clk, fun x hx => by have := h2 x hx; omega⟩
  · refine ⟨L ++ [u], h1.put hm clk, fun x hx => ?_⟩
    rcases List.mem_append.1 hx with hx | hx
    · have := h2 x hx; omega
    · rw [List.mem_singleton.1 hx]; exact hown

set_option maxHeartbeats 4000000 in
theorem latchCounts (l : List (List Int)) (_hw : ∀ xs ∈ l, ∀ x ∈ xs, -9223372036854775808 ≤ x ∧ x ≤ 9223372036854775807) (hl : l.length ≤ 9223372036854775807) (hm : ∀ xs ∈ l, xs.length ≤ 9223372036854775807) (a : Int) (_ha : -9223372036854775808 ≤ a ∧ a ≤ 9223372036854775807) (ms : List MoveZ) :
    Does Tryd.prog 7 [cv (.slc 0 0 l.length none false), i64 a, cv (.slc 1 0 ms.length none false)] [.rows2 true 1 (l.map fun xs => xs.map rowZ), .rows true 2 (ms.map rowMove), rtH] fun v _ _ => v = bl true := by
  refine does Tryd.func7 rfl (by decide) ?_
  change Does Tryd.prog 37 _ _ _
  refine Does.alone 3 (latched ?_)
  refine brc_intro (fun _ => rfl) (fun h => ?_)
  have hms : ms.length ≤ 500 := by
    have := of_decide_eq_false h
    omega
  change Does Tryd.prog 23 _ _ _
  refine Does.alone 3 (pick a 12 (by decide) ?_)
  have hpa := pickZ_lt a (n := 12) (by decide)
  obtain ⟨f, hf⟩ := Int.eq_ofNat_of_zero_le hpa.1
  rw [hf]
  have hf12 : f < 12 := by omega
  clear hf hpa
  change Does Tryd.prog 38 _ _ _
  refine Does.on 4 [0, 3] _ _ (asks (l := l) (ofs := [1, 1, 2]) (k := 3) rfl rfl (by decide) hl hm ?_)
  have hn : (asksZ [1, 1, 2] l).length = min l.length 8 := asksZ_lenL _ _
  have hfit : ∀ x ∈ asksZ [1, 1, 2] l, ∀ c ∈ x, latchFit c := fun x hx => by
    rw [asksZ] at hx
    obtain ⟨y, _, rfl⟩ := List.mem_map.1 hx
    exact asks_fitL [1, 1, 2] y (by decide) (by decide)
  have hl12 : ∀ x ∈ asksZ [1, 1, 2] l, x.length ≤ 12 := fun x hx => by
    rw [asksZ] at hx
    obtain ⟨y, _, rfl⟩ := List.mem_map.1 hx
    exact Nat.le_trans (askL_lenL _ _) (by decide)
  generalize asksZ [1, 1, 2] l = calls at hn hfit hl12
  have hn8 : min l.length 8 ≤ 8 := by omega
  generalize min l.length 8 = n at hn hn8
  have hI := latW_moves (ll := calls.map fun l => l.map downs) (by rw [List.length_map]; omega) (fun l hl => by
    obtain ⟨k, hk, rfl⟩ := List.mem_map.1 hl
    rw [List.length_map]; exact hl12 k hk) (f := f) (by omega) ms
  rw [← latM_calls, List.length_map, hn] at hI
  have hcall : ∀ t, t < n → ∃ lt, calls[t]? = some lt ∧ lsF (calls.map fun l => l.map downs) t = lt.map downs := fun t ht => by
    obtain ⟨lt, hlt⟩ : ∃ lt, calls[t]? = some lt := ⟨_, List.getElem?_eq_getElem (by omega)⟩
    exact ⟨lt, hlt, by rw [lsF, List.getD_eq_getElem?_getD, List.getElem?_map, hlt]; rfl⟩
  obtain ⟨z, hz⟩ : ∃ z, movesZ (mz0 (calls.map latchP) [(f : Int)]) ms = z := ⟨_, rfl⟩
  rw [hz] at hI
  have hu : IntKind.u64.wrap (f : Int) = f := wrap_u64 _ (by omega) (by omega)
  change Does Tryd.prog 24 _ _ _
  rw [hu]
  refine Does.on 6 [4, 5, 1] _ _ (made (ls := calls) (ps := calls.map latchP) (ws := [(f : Int)]) (ms := ms) (f := 39) (n := n) (nc := 1) (ro := false) (ro2 := false) (ro3 := true) hn (by rw [List.length_map]; exact hn) rfl rfl (by omega) (by decide) (by omega) (latch_rights hl12) (fun v hv => by obtain rfl := List.mem_singleton.1 hv; omega) (hz := hz) (fun i l p hl hp K' hK' => ?_) fun v hv hw => ?_)
  · obtain rfl : latchP l = p := by
      rw [List.getElem?_map, hl] at hp
      exact Option.some.inj hp
    exact latchCode' i i l hl (hl12 l (List.mem_of_getElem? hl)) (hfit l (List.mem_of_getElem? hl)) hK'
  change Does Tryd.prog 27 _ _ _
  refine Does.on 15 [6, 7, 8, 9, 10, 11, 12, 13, 14] _ _ (fairFinish (m := z) (v := v) hw hv fun v1 _ hv1 hw1 => ?_)
  obtain ⟨own, hsa, hws⟩ := latW_fin hI (by omega)
  generalize lsF (calls.map fun l => l.map downs) = ls at hcall hsa hws hI
  generalize finish z = z1 at hw1 hsa hws
  clear hI hz
  have hel : z1.el.length ≤ 20000 := Nat.le_trans hw1.el hw1.k
  change Does Tryd.prog 30 _ _ _
  refine Does.on 16 [6, 7, 8, 9, 10, 11, 12, 13, 14] _ _ (answers (m := z1) (v := v1) hw1 n (by omega) ?_)
  have hrow : ∀ t, t < n → ((ansL n z1.el).map fun l => l.map rowZ)[t]? = some ((ansT t z1.el).map rowZ) := fun t ht => by
    rw [List.getElem?_map, ansL, List.getElem?_map, List.getElem?_range ht]
    rfl
  have hrl : ((ansL n z1.el).map fun l => l.map rowZ).length = n := by simp [ansL]
  generalize ((ansL n z1.el).map fun l => l.map rowZ) = rss at hrow hrl ⊢
  have hq12 : ∀ t, t < n → (ansT t z1.el).length ≤ 12 := fun t ht => Classical.byContradiction fun hge => by
    obtain ⟨u, hu⟩ : ∃ u, (ansT t z1.el)[12]? = some u := ⟨_, List.getElem?_eq_getElem (by omega)⟩
    obtain ⟨b, hb, _⟩ := hsa t ht 12 u hu
    obtain ⟨lt, h1, h2⟩ := hcall t ht
    rw [h2] at hb
    have := (List.getElem?_eq_some_iff.1 hb).1
    rw [List.length_map] at this
    have := hl12 lt (List.mem_of_getElem? h1)
    omega
  have hT : ∀ t, t ≤ n → rsum t (fun s => cntT (ls s) (ansT s z1.el).length) ≤ t * 12 := fun t ht => rsum_const t 12 _ fun s hs => Nat.le_trans (cntT_le _ _) (hq12 s (by omega))
  refine SS.loop (fun p : Nat × MapZ × Nat => p.1 ≤ n ∧ Seen own p.2.1 p.1 0) (fun p => [(1, i64 f), (7, cv (.slc 4 0 n none false)), (8, cv (.ptr 6 0)), (9, cv (.map 15)), (10, i64 (rsum p.1 (fun s => cntT (ls s) (ansT s z1.el).length) : Nat)), (40, cv (.slc 16 0 n none true)), (41, i64 n), (42, i64 p.1)])
    (fun p => [.rows2 true 1 (l.map fun xs => xs.map rowZ), .rows true 2 (ms.map rowMove), rtH, .rows false 1 [rowZ 1, rowZ 1, rowZ 2], callsH false calls, .rows false 1 [rowU f]] ++ machS 6 z1 v1 ++ [.mp 0 true p.2.1 p.2.2, .rows2 false 1 rss]) (fun p => n - p.1) [4, 12, 13, 14]
    (At.mk' [1, 7, 8, 9, 10, 40, 41, 42] (0, [], 0) ⟨Nat.zero_le _, [], MSet.nil, fun x hx => by cases hx⟩ ⟨rfl, rfl⟩ rfl rfl (by simp) (by simp) (by decide)) ?_
  rintro ⟨t, es, clk⟩ ⟨ht, hse⟩
  change t ≤ n at ht
  change Seen own es t 0 at hse
  refine S_r ?_
  refine brc_intro (fun hlt => ?_) (fun hlt => ?_)
  · have hlt : t < n := by
      have := of_decide_eq_true hlt
      have : (t : Int) < (n : Int) := this
      omega
    have hrt : rss[0 + Int.toNat (t : Int)]? = some ((ansT t z1.el).map rowZ) := by rw [Nat.zero_add, Int.toNat_natCast]; exact hrow t hlt
    have wrt : IntKind.i64.wrap ((t : Int) + 1) = ((t + 1 : Nat) : Int) := wrap_i64 _ (by omega) (by omega)
    have hTt := hT t ht
    have hsum := rsum_succ t (fun s => cntT (ls s) (ansT s z1.el).length)
    have hqt := hq12 t hlt
    have hsat := hsa t hlt
    obtain ⟨lt, hct, hls⟩ := hcall t hlt
    rw [hls] at hsat hsum
    have hl12t := hl12 lt (List.mem_of_getElem? hct)
    have hxs : ∀ k u, (ansT t z1.el)[k]? = some u → ((ansT t z1.el).map rowZ)[k]? = some (rowZ u) := fun k u h => by rw [List.getElem?_map, h]; rfl
    have hlm : ((ansT t z1.el).map rowZ).length = (ansT t z1.el).length := List.length_map ..
    refine at2 (a := (0 : Int) ≤ (t : Int)) (b := (t : Int) < (n : Int)) (by omega) (by omega) ?_
    refine Exists.intro ((ansT t z1.el).map rowZ) (And.intro hrt ?_)
    rw [hlm, show 0 + Int.toNat (t : Int) = t by simp]
    generalize hxx : ansT t z1.el = xx at hsat hqt hxs hlm hrt hsum ⊢
    generalize hSt : rsum t (fun s => cntT (ls s) (ansT s z1.el).length) = St at hTt hsum ⊢
    generalize hq : xx.length = q at hqt hlm hsum ⊢
    have hcm : (calls.map fun l => l.map rowCallZ)[0 + Int.toNat (t : Int)]? = some (lt.map rowCallZ) := by rw [Nat.zero_add, Int.toNat_natCast, List.getElem?_map, hct]; rfl
    have hlmc : (lt.map rowCallZ).length = lt.length := List.length_map ..
    have hlen : (calls.map fun l => l.map rowCallZ).length = n := by rw [List.length_map]; exact hn
    have hti : 0 + Int.toNat (t : Int) < (calls.map fun l => l.map rowCallZ).length := by rw [hlen]; omega
    have rt : t < rss.length := by omega
    have hrt0 : rss[t]? = some (xx.map rowZ) := by rw [Nat.zero_add, Int.toNat_natCast] at hrt; exact hrt
    have h0t : (0 : Int) ≤ (t : Int) := by omega
    have htn : (t : Int) < (n : Int) := by omega
    refine SS.loop (fun p : Nat × MapZ × Nat => p.1 ≤ q ∧ Seen own p.2.1 t p.1) (fun p => [(1, i64 f), (7, cv (.slc 4 0 n none false)), (8, cv (.ptr 6 0)), (9, cv (.map 15)), (10, i64 (St + cntT (lt.map downs) p.1 : Nat)), (11, i64 t), (40, cv (.slc 16 0 n none true)), (41, i64 n), (42, i64 t), (47, cv (.islc 16 t 0 q none false)), (48, i64 q), (49, i64 p.1)])
      (fun p => [.rows2 true 1 (l.map fun xs => xs.map rowZ), .rows true 2 (ms.map rowMove), rtH, .rows false 1 [rowZ 1, rowZ 1, rowZ 2], callsH false calls, .rows false 1 [rowU f]] ++ machS 6 z1 v1 ++ [.mp 0 true p.2.1 p.2.2, .rows2 false 1 rss]) (fun p => q - p.1) [4, 12, 13, 14]
      (At.mk' [1, 7, 8, 9, 10, 11, 40, 41, 42, 47, 48, 49] (0, es, clk) ⟨Nat.zero_le _, hse⟩ ⟨rfl, rfl⟩ rfl rfl (by simp) (by simp) (by decide)) ?_
    clear hse
    rintro ⟨k, es, clk⟩ ⟨hk, hse⟩
    change k ≤ q at hk
    change Seen own es t k at hse
    refine S_r ?_
    refine brc_intro (fun hlt2 => ?_) (fun hlt2 => ?_)
    · have hlt2 : k < q := by
        have := of_decide_eq_true hlt2
        have : (k : Int) < (q : Int) := this
        omega
      obtain ⟨u, hu⟩ : ∃ u, xx[k]? = some u := ⟨_, List.getElem?_eq_getElem (by omega)⟩
      obtain ⟨b, hb, hb0, hg⟩ := hsat k u hu
      obtain ⟨c, hck, rfl⟩ : ∃ c, lt[k]? = some c ∧ downs c = b := by
        rw [List.getElem?_map] at hb
        cases hc : lt[k]? with
        | none => rw [hc] at hb; cases hb
        | some c => rw [hc] at hb; exact ⟨c, rfl, Option.some.inj hb⟩
      have hkl := (List.getElem?_eq_some_iff.1 hck).1
      have hcs := cntT_succ hb
      have hct12 := cntT_le (lt.map downs) k
      have hu0 : 0 ≤ u ∧ (u = 0 ∨ u < f) := by rcases hg with h | ⟨h1, h2, h3, _⟩ <;> omega
      have wr : IntKind.i64.wrap ((k : Int) + 1) = ((k + 1 : Nat) : Int) := wrap_i64 _ (by omega) (by omega)
      have hkm : (lt.map rowCallZ)[0 + Int.toNat (k : Int)]? = some (rowCallZ c) := by rw [Nat.zero_add, Int.toNat_natCast, List.getElem?_map, hck]; rfl
      have hk2 : (k : Int) < ((lt.map rowCallZ).length : Int) := by rw [hlmc]; omega
      have h0k : (0 : Int) ≤ (k : Int) := by omega
      have hkq : (k : Int) < (q : Int) := by omega
      have r0 : (xx.map rowZ)[0 + Int.toNat (k : Int)]? = some (rowZ u) := by rw [Nat.zero_add, Int.toNat_natCast]; exact hxs k u hu
      refine SS.inlR ?_
      refine And.intro rt (at2 h0k hkq ?_)
      refine Exists.intro (xx.map rowZ) (Exists.intro (rowZ u) (Exists.intro (.int .i64 u) (And.intro hrt0 (And.intro r0 (And.intro rfl ?_)))))
      refine at2 h0t htn ?_
      refine Exists.intro (lt.map rowCallZ) (And.intro hcm ?_)
      refine brc_intro (fun h => ?_) (fun _ => ?_)
      · exfalso
        have h := of_decide_eq_true h
        have h : (k : Int) ≥ ((lt.map rowCallZ).length : Int) := h
        omega
      refine brc_intro (fun h => ?_) (fun _ => ?_)
      · exfalso
        have h := of_decide_eq_true h
        have h : u < 0 := h
        omega
      refine brc_intro (fun h => ?_) (fun _ => ?_)
      · exfalso
        have h := of_decide_eq_true h
        have h : u ≥ if (f : Int) > 1 then (f : Int) else 1 := h
        split at h <;> omega
      refine at2 h0t htn ?_
      refine Exists.intro (lt.map rowCallZ) (And.intro hcm ?_)
      refine And.intro hti (at2 h0k hk2 ?_)
      refine Exists.intro (lt.map rowCallZ) (Exists.intro (rowCallZ c) (Exists.intro (.int .i64 c.w) (And.intro hcm (And.intro hkm (And.intro rfl ?_)))))
      refine brc_intro (fun h2 => ?_) (fun h2 => ?_)
      · have h2 : c.w = 2 := by simpa using h2
        have hd : downs c = false := by rw [downs, h2]; rfl
        have hu2 : u = 0 := hb0 hd
        refine brc_intro (fun h => ?_) (fun _ => ?_)
        · exfalso
          have h : (u != 0) = true := h
          rw [hu2] at h
          cases h
        rw [hd, if_neg (by decide)] at hcs
        refine At.mk' [1, 7, 8, 9, 10, 11, 40, 41, 42, 47, 48, 49] (k + 1, es, clk) ⟨⟨hlt2, hse.mono (by omega)⟩, by show q - (k + 1) < q - k; omega⟩ ⟨?_, rfl⟩ rfl rfl (by simp) (by simp) (by decide)
        rw [wr, hcs]
        rfl
      · have hd : downs c = true := by
          show (c.w != 2) = true
          rw [bne, h2]
          rfl
        rw [hd, if_pos rfl] at hcs
        have wr2 : IntKind.i64.wrap (((St + cntT (lt.map downs) k : Nat) : Int) + 1) = ((St + cntT (lt.map downs) (k + 1) : Nat) : Int) := by rw [hcs, wrap_i64 _ (by omega) (by omega)]; omega
        have hput := hse.put (u := u) (by rcases hg with h | ⟨_, _, _, h⟩ <;> simp [h]) clk
        refine brc_intro (fun h3 => ?_) (fun h3 => ?_)
        · have h3 := of_decide_eq_true h3
          have h3 : u > 0 := h3
          have hgt : mpGet es [u] = 0 := by
            rcases hg with h | ⟨h4, h5, h6, h7⟩
            · omega
            · exact hse.get h4 h7
          refine brc_intro (fun h => ?_) (fun _ => ?_)
          · exfalso
            have h : (mpGet es [u] != 0) = true := h
            rw [hgt] at h
            cases h
          refine At.mk' [1, 7, 8, 9, 10, 11, 40, 41, 42, 47, 48, 49] (k + 1, mpPut es [u] 1 clk, mpClk es [u] clk) ⟨⟨hlt2, hput⟩, by show q - (k + 1) < q - k; omega⟩ ⟨?_, rfl⟩ rfl rfl (by simp) (by simp) (by decide)
          rw [wr, wr2]
        · refine At.mk' [1, 7, 8, 9, 10, 11, 40, 41, 42, 47, 48, 49] (k + 1, mpPut es [u] 1 clk, mpClk es [u] clk) ⟨⟨hlt2, hput⟩, by show q - (k + 1) < q - k; omega⟩ ⟨?_, rfl⟩ rfl rfl (by simp) (by simp) (by decide)
          rw [wr, wr2]
    · have hlt2 : ¬ (k : Int) < (q : Int) := of_decide_eq_false hlt2
      obtain rfl : k = q := by omega
      refine At.mk' [1, 7, 8, 9, 10, 40, 41, 42] (t + 1, es, clk) ⟨⟨hlt, hse.next⟩, by show n - (t + 1) < n - t; omega⟩ ⟨?_, rfl⟩ rfl rfl (by simp) (by simp) (by decide)
      rw [wrt]
      show _ = [_, _, _, _, (10, i64 (rsum (t + 1) (fun s => cntT (ls s) (ansT s z1.el).length) : Nat)), _, _, _]
      rw [hsum]
  · have hlt : ¬ (t : Int) < (n : Int) := of_decide_eq_false hlt
    obtain rfl : t = n := by omega
    have hTt := hT t (Nat.le_refl _)
    generalize hSt : rsum t (fun s => cntT (ls s) (ansT s z1.el).length) = St at hTt hws ⊢
    change Does Tryd.prog 33 _ _ _
    refine Does.on 17 [6, 7, 8, 9, 10, 11, 12, 13, 14] _ _ (coreCellsL (m := z1) (v := v1) hw1 hws ?_)
    have hg : ([(((f - St : Nat) : Int))].map rowU)[0]? = some (rowU ((f - St : Nat) : Int)) := rfl
    refine at2 (by simp) (by simp) (rd1 (rowU ((f - St : Nat) : Int)) (.int .u64 ((f - St : Nat) : Int)) hg rfl ?_)
    have e : (IntKind.i64.wrap ((f - St : Nat) : Int) == (if IntKind.i64.wrap ((f : Int) - (St : Int)) > 0 then IntKind.i64.wrap ((f : Int) - (St : Int)) else 0)) = true := by
      rw [wrap_i64 _ (by omega) (by omega), wrap_i64 _ (by omega) (by omega)]
      split
      · rw [show ((f - St : Nat) : Int) = (f : Int) - (St : Int) by omega]
        simp
      · rw [show ((f - St : Nat) : Int) = 0 by omega]
        rfl
    exact congrArg bl e

end Go.Mac
