/- Nobody is let go ahead of the last one. -/
import Derived.Test.YtnkmddcadkcdcaaDoorQLatched
import Derived.Test.YtnkmddcadkcdcaaDoorQLatU
import Derived.Test.YtnkmddcadkcdcaaDoorQStep
open Go Go.Proofs Go.Mac
set_option maxRecDepth 100000
namespace Go.Mac

set_option maxHeartbeats 2000000 in
theorem latchWaits (l : List (List Int)) (_hw : ∀ xs ∈ l, ∀ x ∈ xs, -9223372036854775808 ≤ x ∧ x ≤ 9223372036854775807) (hl : l.length ≤ 9223372036854775807) (hm : ∀ xs ∈ l, xs.length ≤ 9223372036854775807) (a : Int) (_ha : -9223372036854775808 ≤ a ∧ a ≤ 9223372036854775807) (ms : List MoveZ) :
    Does Tryd.prog 6 [cv (.slc 0 0 l.length none false), i64 a, cv (.slc 1 0 ms.length none false)] [.rows2 true 1 (l.map fun xs => xs.map rowZ), .rows true 2 (ms.map rowMove), rtH] fun v _ _ => v = bl true := by
  refine does Tryd.func6 rfl (by decide) ?_
  change Does Tryd.prog 37 _ _ _
  refine Does.alone 3 (latched ?_)
  refine brc_intro (fun _ => rfl) (fun h => ?_)
  have hms : ms.length ≤ 500 := by
    have := of_decide_eq_false h
    omega
  change Does Tryd.prog 23 _ _ _
  refine Does.alone 3 (pick a 12 (by decide) ?_)
  have hpa := pickZ_lt a (n := 12) (by decide)
  obtain ⟨f, hf⟩ := Int.eq_ofNat_of_zero_le hpa.1
  rw [hf]
  have hf12 : f < 12 := by omega
  clear hf hpa
  change Does Tryd.prog 38 _ _ _
  refine Does.on 4 [0, 3] _ _ (asks (l := l) (ofs := [1, 2]) (k := 2) rfl rfl (by decide) hl hm ?_)
  have hn : (asksZ [1, 2] l).length = min l.length 8 := asksZ_lenL _ _
  have hfit : ∀ x ∈ asksZ [1, 2] l, ∀ c ∈ x, latchFit c := fun x hx => by
    rw [asksZ] at hx
    obtain ⟨y, _, rfl⟩ := List.mem_map.1 hx
    exact asks_fitL [1, 2] y (by decide) (by decide)
  have hl12 : ∀ x ∈ asksZ [1, 2] l, x.length ≤ 12 := fun x hx => by
    rw [asksZ] at hx
    obtain ⟨y, _, rfl⟩ := List.mem_map.1 hx
    exact Nat.le_trans (askL_lenL _ _) (by decide)
  generalize asksZ [1, 2] l = calls at hn hfit hl12
  have hn8 : min l.length 8 ≤ 8 := by omega
  generalize min l.length 8 = n at hn hn8
  have hI := fun ms => latU_moves (ll := calls.map fun l => l.map downs) (by rw [List.length_map]; omega) (fun l hl => by
    obtain ⟨k, hk, rfl⟩ := List.mem_map.1 hl
    rw [List.length_map]; exact hl12 k hk) (f := f) (by omega) ms
  rw [← latM_calls] at hI
  obtain ⟨z, hz⟩ : ∃ z, mz0 (calls.map latchP) [(f : Int)] = z := ⟨_, rfl⟩
  rw [hz] at hI
  have hsays := fun ms => (hI ms).says
  rw [List.length_map, hn] at hsays
  clear hI
  have hu : IntKind.u64.wrap (f : Int) = f := wrap_u64 _ (by omega) (by omega)
  change Does Tryd.prog 24 _ _ _
  rw [hu]
  refine Does.nilArg4 2 (by decide) ?_
  refine Does.on 7 [4, 5, 6] _ _ (made (ls := calls) (ps := calls.map latchP) (ws := [(f : Int)]) (ms := []) (f := 39) (n := n) (nc := 1) (k := 0) (ro := false) (ro2 := false) (ro3 := false) hn (by rw [List.length_map]; exact hn) rfl rfl (by omega) (by decide) (by decide) (latch_rights hl12) (fun v hv => by obtain rfl := List.mem_singleton.1 hv; omega) (hz := hz) (fun i l p hl hp K' hK' => ?_) fun v hv hw => ?_)
  · obtain rfl : latchP l = p := by
      rw [List.getElem?_map, hl] at hp
      exact Option.some.inj hp
    exact latchCode' i i l hl (hl12 l (List.mem_of_getElem? hl)) (hfit l (List.mem_of_getElem? hl)) hK'
  · refine SS.loop (fun p : Nat × VZ => p.1 ≤ ms.length ∧ okV p.2) (fun p => [(1, i64 f), (7, cv (.slc 4 0 n none false)), (8, cv (.ptr 7 0)), (32, cv (.slc 1 0 ms.length none false)), (33, i64 ms.length), (34, i64 p.1)])
      (fun p => [.rows2 true 1 (l.map fun xs => xs.map rowZ), .rows true 2 (ms.map rowMove), rtH, .rows false 1 [rowZ 1, rowZ 2], callsH false calls, .rows false 1 [rowU f], .rows false 2 []] ++ machS 7 (movesZ z (ms.take p.1)) p.2) (fun p => ms.length - p.1) [4, 13, 14, 15]
      (At.mk' [1, 7, 8, 32, 33, 34] (0, v) ⟨by simp, hv⟩ ⟨rfl, rfl⟩ rfl rfl (by simp) (by simp) (by decide)) ?_
    rintro ⟨i, v1⟩ ⟨hik, hv1⟩
    change i ≤ ms.length at hik
    change okV v1 at hv1
    refine S_r ?_
    refine brc_intro (fun hlt => ?_) (fun hlt => ?_)
    · have hlt : i < ms.length := by
        have := of_decide_eq_true hlt
        have : (i : Int) < (ms.length : Int) := this
        omega
      have hlt0 := hlt
      obtain ⟨x, hx⟩ : ∃ x, ms[i]? = some x := ⟨_, List.getElem?_eq_getElem (by omega)⟩
      have hw1 := hw.moves (ms.take i)
      have hnx := movesZ_take z ms i x hx
      have hxm : (ms.map rowMove)[0 + Int.toNat (i : Int)]? = some (rowMove x) := by simp [hx]
      refine SS.seq (SS.block ?_)
      refine SS.stepR ?_
      refine at2 (a := (0 : Int) ≤ (i : Int)) (b := (i : Int) < (ms.length : Int)) (by omega) (by omega) (rdA (rowMove x) hxm ?_)
      refine SS.cut (fun v : VZ => okV v) (fun v => [(1, i64 f), (7, cv (.slc 4 0 n none false)), (8, cv (.ptr 7 0)), (32, cv (.slc 1 0 ms.length none false)), (33, i64 ms.length), (34, i64 i)])
        (fun v => [.rows2 true 1 (l.map fun xs => xs.map rowZ), .rows true 2 (ms.map rowMove), rtH, .rows false 1 [rowZ 1, rowZ 2], callsH false calls, .rows false 1 [rowU f], .rows false 2 []] ++ machS 7 (movesZ z (ms.take (i + 1))) v) [4, 13, 14, 15] ?_ ?_
      · refine S_r ?_
        refine brc_intro (fun hp => ?_) (fun hp => ?_)
        · rw [moveZ, if_pos (show x.pk = true from hp)] at hnx
          change Does Tryd.prog 40 _ _ _
          refine Does.on 17 [7, 8, 9, 10, 11, 12, 13, 14, 15] _ _ (corePoke (m := movesZ z (ms.take i)) (v := v1) hw1 hv1 x.th (fun v' hv' => ?_) fun e v' hv' => ?_)
          all_goals
            rw [← hnx]
            exact At.mk' [1, 7, 8, 32, 33, 34] v' hv' ⟨rfl, rfl⟩ rfl rfl (by simp) (by simp) (by decide)
        · rw [moveZ, if_neg (show ¬ x.pk = true from fun h => by rw [show x.pk = false from hp] at h; cases h)] at hnx
          change Does Tryd.prog 41 _ _ _
          refine Does.on 17 [7, 8, 9, 10, 11, 12, 13, 14, 15] _ _ (coreStep (m := movesZ z (ms.take i)) (v := v1) hw1 hv1 x.th (fun _ v' hv' => ?_) fun _ v' hv' => ?_)
          all_goals
            rw [← hnx]
            exact At.mk' [1, 7, 8, 32, 33, 34] v' hv' ⟨rfl, rfl⟩ rfl rfl (by simp) (by simp) (by decide)
      · intro v2 hv2
        change okV v2 at hv2
        obtain ⟨u, hws, hu0, huf, hal⟩ := hsays (ms.take (i + 1))
        have hw2 := hw.moves (ms.take (i + 1))
        clear hnx hw1
        generalize hz1 : movesZ z (ms.take (i + 1)) = z1 at hws hal hw2
        refine S_r ?_
        change Does Tryd.prog 33 _ _ _
        refine Does.on 16 [7, 8, 9, 10, 11, 12, 13, 14, 15] _ _ (coreCellsL (m := z1) (v := v2) hw2 hws ?_)
        refine at2 (by simp) (by simp) (rd1 (rowU u) (.int .u64 u) rfl rfl ?_)
        refine brc_intro (fun h => ?_) (fun _ => ?_)
        · exfalso
          have h := of_decide_eq_true h
          have h : u > IntKind.u64.wrap (f : Int) := h
          rw [hu] at h
          omega
        have hcall : ∀ t, t < n → ∃ lt, calls[t]? = some lt ∧ lsF (calls.map fun l => l.map downs) t = lt.map downs := fun t ht => by
          obtain ⟨lt, hlt⟩ : ∃ lt, calls[t]? = some lt := ⟨_, List.getElem?_eq_getElem (by omega)⟩
          exact ⟨lt, hlt, by rw [lsF, List.getD_eq_getElem?_getD, List.getElem?_map, hlt]; rfl⟩
        change Does Tryd.prog 30 _ _ _
        refine Does.on 17 [7, 8, 9, 10, 11, 12, 13, 14, 15] _ _ (answers (m := z1) (v := v2) hw2 n (by omega) ?_)
        have hrow : ∀ t, t < n → ((ansL n z1.el).map fun l => l.map rowZ)[t]? = some ((ansT t z1.el).map rowZ) := fun t ht => by
          rw [List.getElem?_map, ansL, List.getElem?_map, List.getElem?_range ht]
          rfl
        have hrl : ((ansL n z1.el).map fun l => l.map rowZ).length = n := by simp [ansL]
        generalize ((ansL n z1.el).map fun l => l.map rowZ) = rss at hrow hrl ⊢
        refine SS.loop (fun t : Nat => t ≤ n) (fun t => [(1, i64 f), (7, cv (.slc 4 0 n none false)), (8, cv (.ptr 7 0)), (11, cv (.slc 16 0 1 none false)), (32, cv (.slc 1 0 ms.length none false)), (33, i64 ms.length), (34, i64 i), (64, cv (.slc 17 0 n none true)), (65, i64 n), (66, i64 t)])
          (fun _ => [.rows2 true 1 (l.map fun xs => xs.map rowZ), .rows true 2 (ms.map rowMove), rtH, .rows false 1 [rowZ 1, rowZ 2], callsH false calls, .rows false 1 [rowU f], .rows false 2 []] ++ machS 7 z1 v2 ++ [.rows false 1 [rowU u], .rows2 false 1 rss]) (fun t => n - t) [4, 13, 14, 15]
          (At.mk' [1, 7, 8, 11, 32, 33, 34, 64, 65, 66] 0 (Nat.zero_le _) ⟨rfl, rfl⟩ rfl rfl (by simp) (by simp) (by decide)) ?_
        intro t ht
        change t ≤ n at ht
        refine S_r ?_
        refine brc_intro (fun hlt => ?_) (fun hlt => ?_)
        · have hlt1 : t < n := by
            have := of_decide_eq_true hlt
            have : (t : Int) < (n : Int) := this
            omega
          have hrt : rss[0 + Int.toNat (t : Int)]? = some ((ansT t z1.el).map rowZ) := by rw [Nat.zero_add, Int.toNat_natCast]; exact hrow t hlt1
          have hal := hal t hlt1
          obtain ⟨lt, hct, hls⟩ := hcall t hlt1
          rw [hls] at hal
          have hl12t := hl12 lt (List.mem_of_getElem? hct)
          refine at2 (a := (0 : Int) ≤ (t : Int)) (b := (t : Int) < (n : Int)) (by omega) (by omega) ?_
          refine Exists.intro ((ansT t z1.el).map rowZ) (And.intro hrt ?_)
          rw [show ((ansT t z1.el).map rowZ).length = (ansT t z1.el).length from List.length_map .., show 0 + Int.toNat (t : Int) = t by simp]
          have hal12 : ∀ k, k < (ansT t z1.el).length → k < 12 := fun k hk => by
            obtain ⟨b, hb, _⟩ := hal k hk
            have := (List.getElem?_eq_some_iff.1 hb).1
            rw [List.length_map] at this
            omega
          generalize (ansT t z1.el).length = q at hal hal12 ⊢
          refine SS.loop (fun k : Nat => k ≤ q) (fun k => [(1, i64 f), (7, cv (.slc 4 0 n none false)), (8, cv (.ptr 7 0)), (11, cv (.slc 16 0 1 none false)), (12, i64 t), (32, cv (.slc 1 0 ms.length none false)), (33, i64 ms.length), (34, i64 i), (64, cv (.slc 17 0 n none true)), (65, i64 n), (66, i64 t), (72, i64 q), (73, i64 k)])
            (fun _ => [.rows2 true 1 (l.map fun xs => xs.map rowZ), .rows true 2 (ms.map rowMove), rtH, .rows false 1 [rowZ 1, rowZ 2], callsH false calls, .rows false 1 [rowU f], .rows false 2 []] ++ machS 7 z1 v2 ++ [.rows false 1 [rowU u], .rows2 false 1 rss]) (fun k => q - k) [4, 13, 14, 15]
            (At.mk' [1, 7, 8, 11, 12, 32, 33, 34, 64, 65, 66, 72, 73] 0 (Nat.zero_le _) ⟨rfl, rfl⟩ rfl rfl (by simp) (by simp) (by decide)) ?_
          intro k hk
          change k ≤ q at hk
          refine S_r ?_
          refine brc_intro (fun hlt => ?_) (fun hlt => ?_)
          · have hltk : k < q := by
              have := of_decide_eq_true hlt
              have : (k : Int) < (q : Int) := this
              omega
            obtain ⟨b, hb, hbu⟩ := hal k hltk
            have hk12 := hal12 k hltk
            obtain ⟨c, hck, rfl⟩ : ∃ c, lt[k]? = some c ∧ downs c = b := by
              rw [List.getElem?_map] at hb
              cases hc : lt[k]? with
              | none => rw [hc] at hb; cases hb
              | some c => rw [hc] at hb; exact ⟨c, rfl, Option.some.inj hb⟩
            have hkl := (List.getElem?_eq_some_iff.1 hck).1
            have wr : IntKind.i64.wrap ((k : Int) + 1) = ((k + 1 : Nat) : Int) := wrap_i64 _ (by omega) (by omega)
            have hcm : (calls.map fun l => l.map rowCallZ)[0 + Int.toNat (t : Int)]? = some (lt.map rowCallZ) := by rw [Nat.zero_add, Int.toNat_natCast, List.getElem?_map, hct]; rfl
            refine SS.inlR ?_
            refine at2 (a := (0 : Int) ≤ (t : Int)) (b := (t : Int) < (n : Int)) (by omega) (by omega) ?_
            refine Exists.intro (lt.map rowCallZ) (And.intro hcm ?_)
            have hlm : (lt.map rowCallZ).length = lt.length := List.length_map ..
            have hlen : (calls.map fun l => l.map rowCallZ).length = n := by rw [List.length_map]; exact hn
            refine brc_intro (fun h => ?_) (fun _ => ?_)
            · exfalso
              have h := of_decide_eq_true h
              have h : (k : Int) ≥ ((lt.map rowCallZ).length : Int) := h
              rw [hlm] at h
              omega
            refine at2 (a := (0 : Int) ≤ (t : Int)) (b := (t : Int) < (n : Int)) (by omega) (by omega) ?_
            refine Exists.intro (lt.map rowCallZ) (And.intro hcm ?_)
            have hcm2 : (calls.map fun l => l.map rowCallZ)[0 + Int.toNat (t : Int)]? = some (lt.map rowCallZ) := hcm
            have hkm : (lt.map rowCallZ)[0 + Int.toNat (k : Int)]? = some (rowCallZ c) := by rw [Nat.zero_add, Int.toNat_natCast, List.getElem?_map, hck]; rfl
            have hti : 0 + Int.toNat (t : Int) < (calls.map fun l => l.map rowCallZ).length := by rw [hlen]; omega
            have hk2 : (k : Int) < ((lt.map rowCallZ).length : Int) := by rw [hlm]; omega
            refine And.intro hti (at2 (a := (0 : Int) ≤ (k : Int)) (b := (k : Int) < ((lt.map rowCallZ).length : Int)) (by omega) hk2 ?_)
            refine Exists.intro (lt.map rowCallZ) (Exists.intro (rowCallZ c) (Exists.intro (.int .i64 c.w) (And.intro hcm2 (And.intro hkm (And.intro rfl ?_)))))
            refine brc_intro (fun h2 => ?_) (fun _ => ?_)
            · have h2 : c.w = 2 := by simpa using h2
              have hu2 : u = 0 := hbu (by rw [downs, h2]; rfl)
              refine at2 (by simp) (by simp) (rd1 (rowU u) (.int .u64 u) rfl rfl ?_)
              refine brc_intro (fun h => ?_) (fun _ => ?_)
              · have h : (u != 0) = true := h
                rw [hu2] at h
                cases h
              refine At.mk' [1, 7, 8, 11, 12, 32, 33, 34, 64, 65, 66, 72, 73] (k + 1) ⟨hltk, by omega⟩ ⟨?_, rfl⟩ rfl rfl (by simp) (by simp) (by decide)
              rw [wr]
            · refine At.mk' [1, 7, 8, 11, 12, 32, 33, 34, 64, 65, 66, 72, 73] (k + 1) ⟨hltk, by omega⟩ ⟨?_, rfl⟩ rfl rfl (by simp) (by simp) (by decide)
              rw [wr]
          · refine At.mk' [1, 7, 8, 11, 32, 33, 34, 64, 65, 66] (t + 1) ⟨hlt1, by omega⟩ ⟨?_, rfl⟩ rfl rfl (by simp) (by simp) (by decide)
            rw [wrap_i64 (t + 1) (by omega) (by omega)]
            first | done | rfl
        · refine S_r ?_
          refine At.mk' [1, 7, 8, 32, 33, 34] (i + 1, v2) ⟨⟨hlt0, hv2⟩, by show ms.length - (i + 1) < ms.length - i; omega⟩ ⟨?_, rfl⟩ ?_ rfl (by simp) (by simp) (by decide)
          · rw [wrap_i64 (i + 1) (by omega) (by omega)]
            rfl
          · subst hz1
            rfl
    · exact rfl

end Go.Mac
