/- Calls of a phaser, one behind the other at their points, come to the cell's state, and each was told its answer: GatherLin. -/
import Derived.Test.YtlimhldkkbaohaaDoorGLnA
import Derived.Test.YtlimhldkkbaohaaDoorGMapA
import Derived.Test.YtlimhldkkbaohaaDoorQPtsW
import Derived.Test.YtlimhldkkbaohaaDoorQGuests
import Derived.Test.YtlimhldkkbaohaaDoorQBegins
import Derived.Test.YtlimhldkkbaohaaDoorQGathered
import Derived.Test.YtlimhldkkbaohaaDoorGCount
import Derived.Test.YtlimhldkkbaohaaDoorGRepl
open Go Go.Proofs Go.Mac
set_option maxRecDepth 100000
namespace Go.Mac
attribute [local irreducible] drawnR

theorem rv_begin {ph pa : Int} (hph : 0 ≤ ph ∧ ph < 2147483648) (hpa : 0 ≤ pa ∧ pa < 5) : RV (pkWordZ false ph pa pa) ∧ wPh (pkWordZ false ph pa pa) = ⟨false, ph, pa, pa⟩ := by
  have h : pkWordZ false ph pa pa = pa + pa * 65536 + ph * 4294967296 := by simp [pkWordZ]
  rw [h]
  have e1 : (pa + pa * 65536 + ph * 4294967296) / 65536 = pa + ph * 65536 := by omega
  have e2 : (pa + pa * 65536 + ph * 4294967296) / 4294967296 = ph := by omega
  have e3 : (pa + pa * 65536 + ph * 4294967296) % 65536 = pa := by omega
  exact ⟨⟨by omega, by omega, by rw [e1, e3]; omega⟩, wPh_eq (decide_eq_false (by omega)) (by rw [e2]; omega) (by rw [e1]; omega) e3⟩

/-- The last answers of all calls, as a map. -/
structure LastM (A : PtZ → Int) (es : MapZ) (pts : List PtZ) : Prop where
  has : ∀ t k : Nat, (∃ x ∈ pts, x.t = t ∧ x.k = k) → mpHas es [(t : Int), (k : Int)] = true
  get : ∀ t k : Nat, mpGet es [(t : Int), (k : Int)] = foldA A (fun _ => 0) pts [(t : Int), (k : Int)]

theorem LastM.nil (A : PtZ → Int) : LastM A [] [] := ⟨fun t k h => (by obtain ⟨x, h, _⟩ := h; cases h), fun t k => rfl⟩

theorem LastM.put {A : PtZ → Int} {es : MapZ} {pts : List PtZ} (h : LastM A es pts) (x : PtZ) (clk : Nat) : LastM A (mpPut es [x.t, x.k] (A x) clk) (pts ++ [x]) := by
  refine ⟨fun t k hx => ?_, fun t k => ?_⟩
  · rw [mpHas_put, Bool.or_eq_true, decide_eq_true_iff]
    obtain ⟨y, hy, h1, h2⟩ := hx
    rcases List.mem_append.1 hy with hy | hy
    · exact .inr (h.has t k ⟨y, hy, h1, h2⟩)
    · obtain rfl := List.mem_singleton.1 hy
      exact .inl (by rw [h1, h2])
  · rw [mpGet_put, foldA_snoc, rpPut, h.get]

set_option maxHeartbeats 8000000 in
theorem gatherLin (l : List (List Int)) (_hw : ∀ xs ∈ l, ∀ x ∈ xs, -9223372036854775808 ≤ x ∧ x ≤ 9223372036854775807) (hl : l.length ≤ 9223372036854775807) (hm : ∀ xs ∈ l, xs.length ≤ 9223372036854775807) (a : Int) (_ha : -9223372036854775808 ≤ a ∧ a ≤ 9223372036854775807) (b : Int) (_hb : -9223372036854775808 ≤ b ∧ b ≤ 9223372036854775807) (ms : List MoveZ) (d : Bool) :
    Does Tryd.prog 15 [cv (.slc 0 0 l.length none false), i64 a, i64 b, cv (.slc 1 0 ms.length none false), bl d] [.rows2 true 1 (l.map fun xs => xs.map rowZ), .rows true 2 (ms.map rowMove), rtH] fun v _ _ => v = bl true := by
  refine does Tryd.func15 rfl (by decide) ?_
  change Does Tryd.prog 16 _ _ _
  refine Does.alone 3 (gathered ?_)
  change Does Tryd.prog 33 _ _ _
  refine Does.alone 3 (phased ?_)
  refine brc_intro (fun _ => rfl) (fun h => ?_)
  have hms : ms.length ≤ 500 := by
    have := of_decide_eq_false h
    omega
  change Does Tryd.prog 17 _ _ _
  refine Does.on 3 [0] _ _ (guests (l := l) rfl hl hm ?_)
  obtain ⟨g1, g2, g3, _⟩ := guests_made l
  have hg : (guestsZ l).length = min l.length 6 := by
    rw [List.length_append] at g1
    exact Nat.add_right_cancel g1
  have g2 : ∀ x ∈ guestsZ l, x.length ≤ 6 := fun x hx => g2 x (List.mem_append_left _ hx)
  have g3 : ∀ x ∈ guestsZ l, ∀ c ∈ x, c ∈ guestT ++ ownL := fun x hx => g3 x (List.mem_append_left _ hx)
  generalize guestsZ l = calls at g1 g2 g3 hg
  have hn6 : min l.length 6 ≤ 6 := by omega
  generalize min l.length 6 = n at g1 hg hn6
  have hpb := pickZ_lt b (n := 5) (by decide)
  have hph := begPh_in a
  change Does Tryd.prog 34 _ _ _
  refine Does.alone 4 (begins a b ?_)
  generalize begPh a = ph at hph ⊢
  generalize pickZ b 5 = pa at hpb ⊢
  obtain ⟨hrv, hwp⟩ := rv_begin hph (show 0 ≤ pa ∧ pa < 5 from hpb)
  generalize pkWordZ false ph pa pa = w at hrv hwp ⊢
  have hwb : 0 ≤ w ∧ w < 18446744073709551616 := ⟨hrv.1, hrv.2.1⟩
  have hright : ∀ l ∈ calls, rightZ (gathP l) 1 = true := fun l' hl' => asked_right (g2 l' hl') (g3 l' hl')
  have hI := lin_moves (ll := calls) (by omega) g2 g3 hwb ms
  have hN := ln_moves (ll := calls) (by omega) hright (fun l' hl' c hc => asked_ok.1 c (g3 l' hl' c hc)) hrv ms
  obtain ⟨z, hz⟩ : ∃ z, movesZ (mz0 (calls.map gathP) [w]) ms = z := ⟨_, rfl⟩
  rw [hz] at hI hN
  change Does Tryd.prog 35 _ _ _
  refine Does.on 6 [3, 5, 1] _ _ (made (ls := calls) (ps := calls.map gathP) (ws := [w]) (ms := ms) (f := 36) (n := n) (nc := 1) (ro := false) (ro2 := false) (ro3 := true) hg (by rw [List.length_map]; exact hg) rfl rfl (by omega) (by decide) (by omega) (fun p hp => ?_) (fun v hv => by obtain rfl := List.mem_singleton.1 hv; exact hwb) (hz := hz) (fun i l p hl hp K' hK' => ?_) fun v hv hw => ?_)
  · obtain ⟨l', hl', rfl⟩ := List.mem_map.1 hp
    exact hright l' hl'
  · obtain rfl : gathP l = p := by
      rw [List.getElem?_map, hl] at hp
      exact Option.some.inj hp
    have hl' := List.mem_of_getElem? hl
    exact gatherCode' i i l hl (Nat.le_trans (g2 l hl') (by decide)) (fun c hc => asked_ok.1 c (g3 l hl' c hc)) hK'
  clear hz
  refine brc_intro (fun _ => ?_) (fun _ => ?_)
  · change Does Tryd.prog 37 _ _ _
    refine Does.on 15 [6, 7, 8, 9, 10, 11, 12, 13, 14] _ _ (fairFinish (m := z) (v := v) hw hv fun v1 _ hv1 hw1 => ?_)
    have hI1 := hI.fin (lin_bodies g3) rfl (lin_len calls)
    have hN1 := hN.fin
    generalize finish z = z1 at hw1 hI1 hN1
    clear hw hI hN hv
    obtain ⟨gs, hJ⟩ := hI1
    obtain ⟨gs2, u, hL⟩ := hN1
    have hk := hJ.lim
    have hnE := hJ.num
    have hnA := hJ.numA
    have hinc := hJ.inc
    have hrw := hL.rv
    change Does Tryd.prog 47 _ _ _
    refine Does.on 15 [6, 7, 8, 9, 10, 11, 12, 13, 14] _ _ (coreActs (m := z1) (v := v1) (by omega) ?_)
    change Does Tryd.prog 48 _ _ _
    refine Does.on 16 [6, 7, 8, 9, 10, 11, 12, 13, 14] _ _ (coreEvents (m := z1) (v := v1) (by omega) ?_)
    change Does Tryd.prog 51 _ _ _
    refine Does.on 17 [3, 15, 16] _ _ (linPoints (calls := calls) (acts := z1.al) (el := z1.el) hg (by omega) rfl (by omega) rfl (by omega) (fun l hl => by have := g2 l hl; omega) (fun he => ?_) fun _ pts hS => ?_)
    · exfalso
      rw [hJ.ok] at he
      cases he
    have hls : ∀ t, t < n → calls[t]? = some (lsC calls t) := fun t ht => lsC_get (by omega)
    have hpl : pts.length ≤ 84 := by
      have := pts_few (acts := z1.al) (el := z1.el) hg fun t ht => by
        have h1 := hL.tw t (by omega)
        have h2 := hL.jl t (by omega)
        have h3 := g2 _ (lsC_mem (ll := calls) (t := t) (by omega))
        omega
      rw [← hS.2.len] at this
      omega
    obtain ⟨A, hA, hlast⟩ := hL.replay (calls := calls) (pts := pts) hinc rfl (by rw [hg]; exact hls) hS
    rw [hwp] at hA
    change Does Tryd.prog 56 _ _ _
    refine Does.on 18 [3, 17] _ _ (replay (all := pts) (pts := pts) (o := 0) ⟨false, ph, pa, pa⟩ hg (by omega) rfl (by omega) (fun i _ => by rw [Nat.zero_add]) (fun l hl => by have := g2 l hl; omega) (fun hN => ?_) fun q outs hq => ?_)
    · rw [hA] at hN
      cases hN
    rw [hA] at hq
    obtain ⟨rfl, rfl⟩ := Prod.mk.inj (Option.some.inj hq)
    change Does Tryd.prog 57 _ _ _
    refine Does.on 20 [6, 7, 8, 9, 10, 11, 12, 13, 14] _ _ (coreCellsL (m := z1) (v := v1) hw1 (l := [u]) hL.sys.ws ?_)
    refine brc_intro (fun h => ?_) (fun _ => ?_)
    · exfalso
      simp at h
    refine at2 (by simp) (by simp) (rd1 (rowU u) (.int .u64 u) rfl rfl ?_)
    change Does Tryd.prog 58 _ _ _
    refine Does.alone 21 (gOfIs u ⟨hrw.1, hrw.2.1⟩ (fun h => ?_) fun _ => ?_)
    · exfalso
      have := wPh_right hrw
      rw [Ph.right] at this
      have h : pkRightB (wPh u).ph (wPh u).pa (wPh u).wa = false := h
      rw [this] at h
      cases h
    refine And.intro plainPhaseG ?_
    refine brc_intro (fun h => ?_) (fun _ => ?_)
    · exfalso
      simp [wPh] at h
    have hal : (pts.map A).length = pts.length := List.length_map ..
    refine SS.loop (fun s : Nat × MapZ × Nat => s.1 ≤ pts.length ∧ LastM A s.2.1 (pts.take s.1))
      (fun s => [(11, cv (.slc 3 0 n none false)), (15, cv (.ptr 6 0)), (19, cv (.slc 18 0 (pts.map A).length none false)), (24, cv (.map 22)), (117, cv (.slc 17 0 pts.length none false)), (118, i64 pts.length), (119, i64 s.1)])
      (fun s => [.rows2 true 1 (l.map fun xs => xs.map rowZ), .rows true 2 (ms.map rowMove), rtH, callsH false calls, .one [.f (.bool false), .f (.int .i64 ph), .f (.int .i64 pa), .f (.int .i64 pa)], .rows false 1 ([w].map rowU)] ++ machS 6 z1 v1 ++ [.rows false 6 (z1.al.map rowAct), .rows false 4 (z1.el.map rowEv), .rows false 4 (pts.map rowPt), .rows false 1 ((pts.map A).map rowZ), .one [.f (.bool (wPh u).o), .f (.int .i64 (wPh u).ph), .f (.int .i64 (wPh u).pa), .f (.int .i64 (wPh u).wa)], .rows false 1 ([u].map rowU), .one [.f (.bool (gO u)), .f (.int .i64 (gPh u)), .f (.int .i64 (gPa u)), .f (.int .i64 (gWa u))], .mp 2 false s.2.1 s.2.2]) (fun s => pts.length - s.1) [12, 13, 14]
      (At.mk' [11, 15, 19, 24, 117, 118, 119] (0, [], 0) ⟨Nat.zero_le _, LastM.nil A⟩ ⟨rfl, rfl⟩ rfl rfl (by simp) (by simp) (by decide)) ?_
    rintro ⟨i, es, clk⟩ ⟨hi, hes⟩
    dsimp only at hi hes
    refine S_r ?_
    refine brc_intro (fun hlt => ?_) (fun hlt => ?_)
    · have hlt : i < pts.length := by
        have := of_decide_eq_true hlt
        have : (i : Int) < (pts.length : Int) := this
        omega
      obtain ⟨x, hx⟩ : ∃ x, pts[i]? = some x := ⟨_, List.getElem?_eq_getElem hlt⟩
      have htk : pts.take (i + 1) = pts.take i ++ [x] := by rw [List.take_add_one, hx]; rfl
      have wr : IntKind.i64.wrap ((i : Int) + 1) = ((i + 1 : Nat) : Int) := wrap_i64 _ (by omega) (by omega)
      have rx : (pts.map rowPt)[0 + Int.toNat (i : Int)]? = some (rowPt x) := by rw [Int.toNat_natCast, Nat.zero_add, List.getElem?_map, hx]; rfl
      have ra : ((pts.map A).map rowZ)[0 + Int.toNat (i : Int)]? = some (rowZ (A x)) := by rw [Int.toNat_natCast, Nat.zero_add, List.getElem?_map, List.getElem?_map, hx]; rfl
      have hix : (0 : Int) ≤ (i : Int) ∧ (i : Int) < ((pts.map A).length : Int) := by rw [hal]; omega
      refine at2 (a := (0 : Int) ≤ (i : Int)) (b := (i : Int) < (pts.length : Int)) (by omega) (by omega) (rdA (rowPt x) rx ?_)
      refine SS.drawR follows (by decide) ?_
      repeat' (first | refine draw_cond (v := cv (.rptr 18 (0 + Int.toNat (i : Int)) 0)) (C := (0 : Int) ≤ (i : Int) ∧ (i : Int) < ((pts.map A).length : Int)) rfl (fun _ => rfl) (by intro _ c k; exact ⟨c.1, c.2, k⟩) (by intro _; rfl) hix ?_ | refine draw_cond (v := i64 (A x)) (C := ((pts.map A).map rowZ)[0 + Int.toNat (i : Int)]? = some (rowZ (A x))) rfl (fun _ => rfl) (by intro _ c k; exact ⟨rowZ (A x), .int .i64 (A x), c, rfl, k⟩) (by intro _; rfl) ra ?_ | refine draw_known rfl (fun _ => rfl) (fun _ => rfl) (fun _ => rfl) ?_ | fail)
      refine draw_eff1 rfl rfl ?_
      refine eff_run (fun _ => rfl) ?_
      repeat' (first | refine And.intro rfl ?_ | refine And.intro (And.intro hix.1 (And.intro hix.2 rfl)) ?_ | refine And.intro (Exists.intro _ (Exists.intro _ (And.intro ra (And.intro rfl rfl)))) ?_ | fail)
      change drawnR _ _ _ _ _ _ _ _ _ _
      refine draw_end rfl rfl rfl ?_
      refine At.mk' [11, 15, 19, 24, 117, 118, 119] (i + 1, mpPut es [x.t, x.k] (A x) clk, mpClk es [x.t, x.k] clk) ⟨⟨hlt, ?_⟩, by show pts.length - (i + 1) < pts.length - i; omega⟩ ⟨?_, rfl⟩ rfl rfl (by simp) (by simp) (by decide)
      · dsimp only
        rw [htk]
        exact hes.put x clk
      · rw [wr]
    have hlt : ¬ (i : Int) < (pts.length : Int) := of_decide_eq_false hlt
    obtain rfl : i = pts.length := by omega
    rw [List.take_length] at hes
    change Does Tryd.prog 38 _ _ _
    refine Does.on 23 [6, 7, 8, 9, 10, 11, 12, 13, 14] _ _ (answers (m := z1) (v := v1) hw1 n (by omega) ?_)
    have hrow : ∀ t, t < n → ((ansL n z1.el).map fun l => l.map rowZ)[t]? = some ((ansT t z1.el).map rowZ) := fun t ht => by
      rw [List.getElem?_map, ansL, List.getElem?_map, List.getElem?_range ht]
      rfl
    have hrl : ((ansL n z1.el).map fun l => l.map rowZ).length = n := by simp [ansL]
    generalize ((ansL n z1.el).map fun l => l.map rowZ) = rss at hrow hrl ⊢
    refine SS.loop (fun t : Nat => t ≤ n) (fun t => [(24, cv (.map 22)), (138, cv (.slc 23 0 n none true)), (139, i64 n), (140, i64 t)])
      (fun _ => [.rows2 true 1 (l.map fun xs => xs.map rowZ), .rows true 2 (ms.map rowMove), rtH, callsH false calls, .one [.f (.bool false), .f (.int .i64 ph), .f (.int .i64 pa), .f (.int .i64 pa)], .rows false 1 ([w].map rowU)] ++ machS 6 z1 v1 ++ [.rows false 6 (z1.al.map rowAct), .rows false 4 (z1.el.map rowEv), .rows false 4 (pts.map rowPt), .rows false 1 ((pts.map A).map rowZ), .one [.f (.bool (wPh u).o), .f (.int .i64 (wPh u).ph), .f (.int .i64 (wPh u).pa), .f (.int .i64 (wPh u).wa)], .rows false 1 ([u].map rowU), .one [.f (.bool (gO u)), .f (.int .i64 (gPh u)), .f (.int .i64 (gPa u)), .f (.int .i64 (gWa u))], .mp 2 false es clk, .rows2 false 1 rss]) (fun t => n - t) [12, 13, 14]
      (At.mk' [24, 138, 139, 140] 0 (Nat.zero_le _) ⟨rfl, rfl⟩ rfl rfl (by simp) (by simp) (by decide)) ?_
    intro t ht
    change t ≤ n at ht
    refine S_r ?_
    refine brc_intro (fun hlt2 => ?_) (fun hlt2 => ?_)
    · have hlt2 : t < n := by
        have := of_decide_eq_true hlt2
        have : (t : Int) < (n : Int) := this
        omega
      have wrt : IntKind.i64.wrap ((t : Int) + 1) = ((t + 1 : Nat) : Int) := wrap_i64 _ (by omega) (by omega)
      have hrt : rss[0 + Int.toNat (t : Int)]? = some ((ansT t z1.el).map rowZ) := by rw [Nat.zero_add, Int.toNat_natCast]; exact hrow t hlt2
      have han := fun k x => hlast t k x (by omega)
      have hq6 : (ansT t z1.el).length ≤ 6 := by
        have h1 := hL.ta t (by omega)
        have h2 := hL.jl t (by omega)
        have h3 := g2 _ (lsC_mem (ll := calls) (t := t) (by omega))
        omega
      refine at2 (a := (0 : Int) ≤ (t : Int)) (b := (t : Int) < (n : Int)) (by omega) (by omega) ?_
      refine Exists.intro ((ansT t z1.el).map rowZ) (And.intro hrt ?_)
      rw [List.length_map, show 0 + Int.toNat (t : Int) = t by simp]
      generalize ansT t z1.el = xx at han hrt hq6 ⊢
      generalize hq : xx.length = q at hq6 ⊢
      have rt : t < rss.length := by omega
      have hrt0 : rss[t]? = some (xx.map rowZ) := by rw [Nat.zero_add, Int.toNat_natCast] at hrt; exact hrt
      have h0t : (0 : Int) ≤ (t : Int) := by omega
      have htn : (t : Int) < (n : Int) := by omega
      refine SS.loop (fun k : Nat => k ≤ q) (fun k => [(24, cv (.map 22)), (27, i64 t), (138, cv (.slc 23 0 n none true)), (139, i64 n), (140, i64 t), (145, cv (.islc 23 t 0 q none false)), (146, i64 q), (147, i64 k)])
        (fun _ => [.rows2 true 1 (l.map fun xs => xs.map rowZ), .rows true 2 (ms.map rowMove), rtH, callsH false calls, .one [.f (.bool false), .f (.int .i64 ph), .f (.int .i64 pa), .f (.int .i64 pa)], .rows false 1 ([w].map rowU)] ++ machS 6 z1 v1 ++ [.rows false 6 (z1.al.map rowAct), .rows false 4 (z1.el.map rowEv), .rows false 4 (pts.map rowPt), .rows false 1 ((pts.map A).map rowZ), .one [.f (.bool (wPh u).o), .f (.int .i64 (wPh u).ph), .f (.int .i64 (wPh u).pa), .f (.int .i64 (wPh u).wa)], .rows false 1 ([u].map rowU), .one [.f (.bool (gO u)), .f (.int .i64 (gPh u)), .f (.int .i64 (gPa u)), .f (.int .i64 (gWa u))], .mp 2 false es clk, .rows2 false 1 rss]) (fun k => q - k) [12, 13, 14]
        (At.mk' [24, 27, 138, 139, 140, 145, 146, 147] 0 (Nat.zero_le _) ⟨rfl, rfl⟩ rfl rfl (by simp) (by simp) (by decide)) ?_
      intro k hk2
      change k ≤ q at hk2
      refine S_r ?_
      refine brc_intro (fun hlt3 => ?_) (fun hlt3 => ?_)
      · have hlt3 : k < q := by
          have := of_decide_eq_true hlt3
          have : (k : Int) < (q : Int) := this
          omega
        obtain ⟨y, hy⟩ : ∃ y, xx[k]? = some y := ⟨_, List.getElem?_eq_getElem (by omega)⟩
        have hl0 := han k y hy
        have hget : mpGet es [(t : Int), (k : Int)] = y := by
          rw [hes.get, foldA_at _ _ _ _ _ _ rfl, hl0]
          rfl
        have hhas : mpHas es [(t : Int), (k : Int)] = true := by
          refine hes.has t k ?_
          obtain ⟨x, hx, _⟩ := Option.map_eq_some_iff.1 hl0
          have hx := List.mem_filter.1 (List.mem_of_getLast? hx)
          exact ⟨x, hx.1, keyB_iff.1 hx.2⟩
        have wr : IntKind.i64.wrap ((k : Int) + 1) = ((k + 1 : Nat) : Int) := wrap_i64 _ (by omega) (by omega)
        have h0k : (0 : Int) ≤ (k : Int) := by omega
        have hkq : (k : Int) < (q : Int) := by omega
        have r0 : (xx.map rowZ)[0 + Int.toNat (k : Int)]? = some (rowZ y) := by rw [Nat.zero_add, Int.toNat_natCast, List.getElem?_map, hy]; rfl
        refine SS.inlR ?_
        refine And.intro rt (at2 h0k hkq ?_)
        refine Exists.intro (xx.map rowZ) (Exists.intro (rowZ y) (Exists.intro (.int .i64 y) (And.intro hrt0 (And.intro r0 (And.intro rfl ?_)))))
        refine brc_intro (fun h => ?_) (fun _ => ?_)
        · exfalso
          have h : (!mpHas es [(t : Int), (k : Int)]) = true := h
          rw [hhas] at h
          cases h
        refine brc_intro (fun h => ?_) (fun _ => ?_)
        · exfalso
          have h : (!(mpGet es [(t : Int), (k : Int)] == y)) = true := h
          rw [hget] at h
          simp at h
        refine At.mk' [24, 27, 138, 139, 140, 145, 146, 147] (k + 1) ⟨hlt3, by show q - (k + 1) < q - k; omega⟩ ⟨?_, rfl⟩ rfl rfl (by simp) (by simp) (by decide)
        rw [wr]
      · have hlt3 : ¬ (k : Int) < (q : Int) := of_decide_eq_false hlt3
        obtain rfl : k = q := by omega
        refine At.mk' [24, 138, 139, 140] (t + 1) ⟨hlt2, by show n - (t + 1) < n - t; omega⟩ ⟨?_, rfl⟩ rfl rfl (by simp) (by simp) (by decide)
        rw [wrt]
    · rfl
  · obtain ⟨gs, hJ⟩ := hI
    obtain ⟨gs2, u, hL⟩ := hN
    have hk := hJ.lim
    have hnE := hJ.num
    have hnA := hJ.numA
    have hinc := hJ.inc
    have hrw := hL.rv
    change Does Tryd.prog 47 _ _ _
    refine Does.on 15 [6, 7, 8, 9, 10, 11, 12, 13, 14] _ _ (coreActs (m := z) (v := v) (by omega) ?_)
    change Does Tryd.prog 48 _ _ _
    refine Does.on 16 [6, 7, 8, 9, 10, 11, 12, 13, 14] _ _ (coreEvents (m := z) (v := v) (by omega) ?_)
    change Does Tryd.prog 51 _ _ _
    refine Does.on 17 [3, 15, 16] _ _ (linPoints (calls := calls) (acts := z.al) (el := z.el) hg (by omega) rfl (by omega) rfl (by omega) (fun l hl => by have := g2 l hl; omega) (fun he => ?_) fun _ pts hS => ?_)
    · exfalso
      rw [hJ.ok] at he
      cases he
    have hls : ∀ t, t < n → calls[t]? = some (lsC calls t) := fun t ht => lsC_get (by omega)
    have hpl : pts.length ≤ 84 := by
      have := pts_few (acts := z.al) (el := z.el) hg fun t ht => by
        have h1 := hL.tw t (by omega)
        have h2 := hL.jl t (by omega)
        have h3 := g2 _ (lsC_mem (ll := calls) (t := t) (by omega))
        omega
      rw [← hS.2.len] at this
      omega
    obtain ⟨A, hA, hlast⟩ := hL.replay (calls := calls) (pts := pts) hinc rfl (by rw [hg]; exact hls) hS
    rw [hwp] at hA
    change Does Tryd.prog 56 _ _ _
    refine Does.on 18 [3, 17] _ _ (replay (all := pts) (pts := pts) (o := 0) ⟨false, ph, pa, pa⟩ hg (by omega) rfl (by omega) (fun i _ => by rw [Nat.zero_add]) (fun l hl => by have := g2 l hl; omega) (fun hN => ?_) fun q outs hq => ?_)
    · rw [hA] at hN
      cases hN
    rw [hA] at hq
    obtain ⟨rfl, rfl⟩ := Prod.mk.inj (Option.some.inj hq)
    change Does Tryd.prog 57 _ _ _
    refine Does.on 20 [6, 7, 8, 9, 10, 11, 12, 13, 14] _ _ (coreCellsL (m := z) (v := v) hw (l := [u]) hL.sys.ws ?_)
    refine brc_intro (fun h => ?_) (fun _ => ?_)
    · exfalso
      simp at h
    refine at2 (by simp) (by simp) (rd1 (rowU u) (.int .u64 u) rfl rfl ?_)
    change Does Tryd.prog 58 _ _ _
    refine Does.alone 21 (gOfIs u ⟨hrw.1, hrw.2.1⟩ (fun h => ?_) fun _ => ?_)
    · exfalso
      have := wPh_right hrw
      rw [Ph.right] at this
      have h : pkRightB (wPh u).ph (wPh u).pa (wPh u).wa = false := h
      rw [this] at h
      cases h
    refine And.intro plainPhaseG ?_
    refine brc_intro (fun h => ?_) (fun _ => ?_)
    · exfalso
      simp [wPh] at h
    have hal : (pts.map A).length = pts.length := List.length_map ..
    refine SS.loop (fun s : Nat × MapZ × Nat => s.1 ≤ pts.length ∧ LastM A s.2.1 (pts.take s.1))
      (fun s => [(11, cv (.slc 3 0 n none false)), (15, cv (.ptr 6 0)), (19, cv (.slc 18 0 (pts.map A).length none false)), (24, cv (.map 22)), (117, cv (.slc 17 0 pts.length none false)), (118, i64 pts.length), (119, i64 s.1)])
      (fun s => [.rows2 true 1 (l.map fun xs => xs.map rowZ), .rows true 2 (ms.map rowMove), rtH, callsH false calls, .one [.f (.bool false), .f (.int .i64 ph), .f (.int .i64 pa), .f (.int .i64 pa)], .rows false 1 ([w].map rowU)] ++ machS 6 z v ++ [.rows false 6 (z.al.map rowAct), .rows false 4 (z.el.map rowEv), .rows false 4 (pts.map rowPt), .rows false 1 ((pts.map A).map rowZ), .one [.f (.bool (wPh u).o), .f (.int .i64 (wPh u).ph), .f (.int .i64 (wPh u).pa), .f (.int .i64 (wPh u).wa)], .rows false 1 ([u].map rowU), .one [.f (.bool (gO u)), .f (.int .i64 (gPh u)), .f (.int .i64 (gPa u)), .f (.int .i64 (gWa u))], .mp 2 false s.2.1 s.2.2]) (fun s => pts.length - s.1) []
      (At.mk' [11, 15, 19, 24, 117, 118, 119] (0, [], 0) ⟨Nat.zero_le _, LastM.nil A⟩ ⟨rfl, rfl⟩ rfl rfl (by simp) (by simp) (by decide)) ?_
    rintro ⟨i, es, clk⟩ ⟨hi, hes⟩
    dsimp only at hi hes
    refine S_r ?_
    refine brc_intro (fun hlt => ?_) (fun hlt => ?_)
    · have hlt : i < pts.length := by
        have := of_decide_eq_true hlt
        have : (i : Int) < (pts.length : Int) := this
        omega
      obtain ⟨x, hx⟩ : ∃ x, pts[i]? = some x := ⟨_, List.getElem?_eq_getElem hlt⟩
      have htk : pts.take (i + 1) = pts.take i ++ [x] := by rw [List.take_add_one, hx]; rfl
      have wr : IntKind.i64.wrap ((i : Int) + 1) = ((i + 1 : Nat) : Int) := wrap_i64 _ (by omega) (by omega)
      have rx : (pts.map rowPt)[0 + Int.toNat (i : Int)]? = some (rowPt x) := by rw [Int.toNat_natCast, Nat.zero_add, List.getElem?_map, hx]; rfl
      have ra : ((pts.map A).map rowZ)[0 + Int.toNat (i : Int)]? = some (rowZ (A x)) := by rw [Int.toNat_natCast, Nat.zero_add, List.getElem?_map, List.getElem?_map, hx]; rfl
      have hix : (0 : Int) ≤ (i : Int) ∧ (i : Int) < ((pts.map A).length : Int) := by rw [hal]; omega
      refine at2 (a := (0 : Int) ≤ (i : Int)) (b := (i : Int) < (pts.length : Int)) (by omega) (by omega) (rdA (rowPt x) rx ?_)
      refine SS.drawR follows (by decide) ?_
      repeat' (first | refine draw_cond (v := cv (.rptr 18 (0 + Int.toNat (i : Int)) 0)) (C := (0 : Int) ≤ (i : Int) ∧ (i : Int) < ((pts.map A).length : Int)) rfl (fun _ => rfl) (by intro _ c k; exact ⟨c.1, c.2, k⟩) (by intro _; rfl) hix ?_ | refine draw_cond (v := i64 (A x)) (C := ((pts.map A).map rowZ)[0 + Int.toNat (i : Int)]? = some (rowZ (A x))) rfl (fun _ => rfl) (by intro _ c k; exact ⟨rowZ (A x), .int .i64 (A x), c, rfl, k⟩) (by intro _; rfl) ra ?_ | refine draw_known rfl (fun _ => rfl) (fun _ => rfl) (fun _ => rfl) ?_ | fail)
      refine draw_eff1 rfl rfl ?_
      refine eff_run (fun _ => rfl) ?_
      repeat' (first | refine And.intro rfl ?_ | refine And.intro (And.intro hix.1 (And.intro hix.2 rfl)) ?_ | refine And.intro (Exists.intro _ (Exists.intro _ (And.intro ra (And.intro rfl rfl)))) ?_ | fail)
      change drawnR _ _ _ _ _ _ _ _ _ _
      refine draw_end rfl rfl rfl ?_
      refine At.mk' [11, 15, 19, 24, 117, 118, 119] (i + 1, mpPut es [x.t, x.k] (A x) clk, mpClk es [x.t, x.k] clk) ⟨⟨hlt, ?_⟩, by show pts.length - (i + 1) < pts.length - i; omega⟩ ⟨?_, rfl⟩ rfl rfl (by simp) (by simp) (by decide)
      · dsimp only
        rw [htk]
        exact hes.put x clk
      · rw [wr]
    have hlt : ¬ (i : Int) < (pts.length : Int) := of_decide_eq_false hlt
    obtain rfl : i = pts.length := by omega
    rw [List.take_length] at hes
    change Does Tryd.prog 38 _ _ _
    refine Does.on 23 [6, 7, 8, 9, 10, 11, 12, 13, 14] _ _ (answers (m := z) (v := v) hw n (by omega) ?_)
    have hrow : ∀ t, t < n → ((ansL n z.el).map fun l => l.map rowZ)[t]? = some ((ansT t z.el).map rowZ) := fun t ht => by
      rw [List.getElem?_map, ansL, List.getElem?_map, List.getElem?_range ht]
      rfl
    have hrl : ((ansL n z.el).map fun l => l.map rowZ).length = n := by simp [ansL]
    generalize ((ansL n z.el).map fun l => l.map rowZ) = rss at hrow hrl ⊢
    refine SS.loop (fun t : Nat => t ≤ n) (fun t => [(24, cv (.map 22)), (138, cv (.slc 23 0 n none true)), (139, i64 n), (140, i64 t)])
      (fun _ => [.rows2 true 1 (l.map fun xs => xs.map rowZ), .rows true 2 (ms.map rowMove), rtH, callsH false calls, .one [.f (.bool false), .f (.int .i64 ph), .f (.int .i64 pa), .f (.int .i64 pa)], .rows false 1 ([w].map rowU)] ++ machS 6 z v ++ [.rows false 6 (z.al.map rowAct), .rows false 4 (z.el.map rowEv), .rows false 4 (pts.map rowPt), .rows false 1 ((pts.map A).map rowZ), .one [.f (.bool (wPh u).o), .f (.int .i64 (wPh u).ph), .f (.int .i64 (wPh u).pa), .f (.int .i64 (wPh u).wa)], .rows false 1 ([u].map rowU), .one [.f (.bool (gO u)), .f (.int .i64 (gPh u)), .f (.int .i64 (gPa u)), .f (.int .i64 (gWa u))], .mp 2 false es clk, .rows2 false 1 rss]) (fun t => n - t) []
      (At.mk' [24, 138, 139, 140] 0 (Nat.zero_le _) ⟨rfl, rfl⟩ rfl rfl (by simp) (by simp) (by decide)) ?_
    intro t ht
    change t ≤ n at ht
    refine S_r ?_
    refine brc_intro (fun hlt2 => ?_) (fun hlt2 => ?_)
    · have hlt2 : t < n := by
        have := of_decide_eq_true hlt2
        have : (t : Int) < (n : Int) := this
        omega
      have wrt : IntKind.i64.wrap ((t : Int) + 1) = ((t + 1 : Nat) : Int) := wrap_i64 _ (by omega) (by omega)
      have hrt : rss[0 + Int.toNat (t : Int)]? = some ((ansT t z.el).map rowZ) := by rw [Nat.zero_add, Int.toNat_natCast]; exact hrow t hlt2
      have han := fun k x => hlast t k x (by omega)
      have hq6 : (ansT t z.el).length ≤ 6 := by
        have h1 := hL.ta t (by omega)
        have h2 := hL.jl t (by omega)
        have h3 := g2 _ (lsC_mem (ll := calls) (t := t) (by omega))
        omega
      refine at2 (a := (0 : Int) ≤ (t : Int)) (b := (t : Int) < (n : Int)) (by omega) (by omega) ?_
      refine Exists.intro ((ansT t z.el).map rowZ) (And.intro hrt ?_)
      rw [List.length_map, show 0 + Int.toNat (t : Int) = t by simp]
      generalize ansT t z.el = xx at han hrt hq6 ⊢
      generalize hq : xx.length = q at hq6 ⊢
      have rt : t < rss.length := by omega
      have hrt0 : rss[t]? = some (xx.map rowZ) := by rw [Nat.zero_add, Int.toNat_natCast] at hrt; exact hrt
      have h0t : (0 : Int) ≤ (t : Int) := by omega
      have htn : (t : Int) < (n : Int) := by omega
      refine SS.loop (fun k : Nat => k ≤ q) (fun k => [(24, cv (.map 22)), (27, i64 t), (138, cv (.slc 23 0 n none true)), (139, i64 n), (140, i64 t), (145, cv (.islc 23 t 0 q none false)), (146, i64 q), (147, i64 k)])
        (fun _ => [.rows2 true 1 (l.map fun xs => xs.map rowZ), .rows true 2 (ms.map rowMove), rtH, callsH false calls, .one [.f (.bool false), .f (.int .i64 ph), .f (.int .i64 pa), .f (.int .i64 pa)], .rows false 1 ([w].map rowU)] ++ machS 6 z v ++ [.rows false 6 (z.al.map rowAct), .rows false 4 (z.el.map rowEv), .rows false 4 (pts.map rowPt), .rows false 1 ((pts.map A).map rowZ), .one [.f (.bool (wPh u).o), .f (.int .i64 (wPh u).ph), .f (.int .i64 (wPh u).pa), .f (.int .i64 (wPh u).wa)], .rows false 1 ([u].map rowU), .one [.f (.bool (gO u)), .f (.int .i64 (gPh u)), .f (.int .i64 (gPa u)), .f (.int .i64 (gWa u))], .mp 2 false es clk, .rows2 false 1 rss]) (fun k => q - k) []
        (At.mk' [24, 27, 138, 139, 140, 145, 146, 147] 0 (Nat.zero_le _) ⟨rfl, rfl⟩ rfl rfl (by simp) (by simp) (by decide)) ?_
      intro k hk2
      change k ≤ q at hk2
      refine S_r ?_
      refine brc_intro (fun hlt3 => ?_) (fun hlt3 => ?_)
      · have hlt3 : k < q := by
          have := of_decide_eq_true hlt3
          have : (k : Int) < (q : Int) := this
          omega
        obtain ⟨y, hy⟩ : ∃ y, xx[k]? = some y := ⟨_, List.getElem?_eq_getElem (by omega)⟩
        have hl0 := han k y hy
        have hget : mpGet es [(t : Int), (k : Int)] = y := by
          rw [hes.get, foldA_at _ _ _ _ _ _ rfl, hl0]
          rfl
        have hhas : mpHas es [(t : Int), (k : Int)] = true := by
          refine hes.has t k ?_
          obtain ⟨x, hx, _⟩ := Option.map_eq_some_iff.1 hl0
          have hx := List.mem_filter.1 (List.mem_of_getLast? hx)
          exact ⟨x, hx.1, keyB_iff.1 hx.2⟩
        have wr : IntKind.i64.wrap ((k : Int) + 1) = ((k + 1 : Nat) : Int) := wrap_i64 _ (by omega) (by omega)
        have h0k : (0 : Int) ≤ (k : Int) := by omega
        have hkq : (k : Int) < (q : Int) := by omega
        have r0 : (xx.map rowZ)[0 + Int.toNat (k : Int)]? = some (rowZ y) := by rw [Nat.zero_add, Int.toNat_natCast, List.getElem?_map, hy]; rfl
        refine SS.inlR ?_
        refine And.intro rt (at2 h0k hkq ?_)
        refine Exists.intro (xx.map rowZ) (Exists.intro (rowZ y) (Exists.intro (.int .i64 y) (And.intro hrt0 (And.intro r0 (And.intro rfl ?_)))))
        refine brc_intro (fun h => ?_) (fun _ => ?_)
        · exfalso
          have h : (!mpHas es [(t : Int), (k : Int)]) = true := h
          rw [hhas] at h
          cases h
        refine brc_intro (fun h => ?_) (fun _ => ?_)
        · exfalso
          have h : (!(mpGet es [(t : Int), (k : Int)] == y)) = true := h
          rw [hget] at h
          simp at h
        refine At.mk' [24, 27, 138, 139, 140, 145, 146, 147] (k + 1) ⟨hlt3, by show q - (k + 1) < q - k; omega⟩ ⟨?_, rfl⟩ rfl rfl (by simp) (by simp) (by decide)
        rw [wr]
      · have hlt3 : ¬ (k : Int) < (q : Int) := of_decide_eq_false hlt3
        obtain rfl : k = q := by omega
        refine At.mk' [24, 138, 139, 140] (t + 1) ⟨hlt2, by show n - (t + 1) < n - t; omega⟩ ⟨?_, rfl⟩ rfl rfl (by simp) (by simp) (by decide)
        rw [wrt]
    · rfl

end Go.Mac
