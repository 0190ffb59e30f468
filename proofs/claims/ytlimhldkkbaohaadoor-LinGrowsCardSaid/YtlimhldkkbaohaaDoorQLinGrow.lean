/- What comes later changes no point of a call that was answered: LinGrows. -/
import Derived.Test.YtlimhldkkbaohaaDoorQLinGr
import Derived.Test.YtlimhldkkbaohaaDoorQLinK
import Derived.Test.YtlimhldkkbaohaaDoorQDrawS
import Derived.Test.YtlimhldkkbaohaaDoorQContPt
import Derived.Test.YtlimhldkkbaohaaDoorQPtsW
import Derived.Test.YtlimhldkkbaohaaDoorQGuests
import Derived.Test.YtlimhldkkbaohaaDoorQBegins
import Derived.Test.YtlimhldkkbaohaaDoorQGathered
import Derived.Test.YtlimhldkkbaohaaDoorGCount
open Go Go.Proofs Go.Mac
set_option maxRecDepth 100000
namespace Go.Mac
attribute [local irreducible] drawnR

def stepsZ (m : MZ) (l : List MoveZ) : MZ := l.foldl (fun m x => if x.pk = true then m else (stepZ m x.th).2) m

theorem stepsZ_take {m : MZ} {l : List MoveZ} {i : Nat} {x : MoveZ} (h : l[i]? = some x) : stepsZ m (l.take (i + 1)) = if x.pk = true then stepsZ m (l.take i) else (stepZ (stepsZ m (l.take i)) x.th).2 := by
  rw [stepsZ, List.take_add_one, h, List.foldl_append]
  rfl

theorem lin_steps {n : Nat} {bs : Nat → List (List InsZ)} {calls : List (List CallZ)} (hB : ∀ s, s < n → ∀ b ∈ bs s, linB b = true) (hn : calls.length = n) (hcl : ∀ s, s < n → (calls.getD s []).length = (bs s).length) :
    ∀ (l : List MoveZ) (m : MZ), LinI n bs calls m → LinI n bs calls (stepsZ m l) ∧ Gr m (stepsZ m l)
  | [], m, h => ⟨h, Gr.refl m⟩
  | x :: l, m, h => by
    have e : stepsZ m (x :: l) = stepsZ (if x.pk = true then m else (stepZ m x.th).2) l := rfl
    rw [e]
    by_cases hp : x.pk = true
    · rw [if_pos hp]
      exact lin_steps hB hn hcl l m h
    · rw [if_neg hp]
      obtain ⟨h1, h2⟩ := lin_steps hB hn hcl l _ (h.step hB hn hcl x.th)
      exact ⟨h1, (h.grow hB x.th).trans h2⟩

theorem ans_end {t : Nat} : ∀ {el : List EvZ}, (∀ e ∈ el, e.a = 3) → (ansT t el).length = (endT t el).length
  | [], _ => rfl
  | e :: el, h => by
    have ih := ans_end (t := t) (el := el) fun x hx => h x (List.mem_cons_of_mem _ hx)
    have h3 := h e (by simp)
    rw [ansT, endT, List.length_map, List.length_map] at ih ⊢
    rw [List.filter_cons, List.filter_cons]
    by_cases ht : e.t = (t : Int)
    · rw [if_pos (by simp [h3, ht]), if_pos (by simp [ht]), List.length_cons, List.length_cons, ih]
    · rw [if_neg (by simp [ht]), if_neg (by simp [ht]), ih]

set_option maxHeartbeats 8000000 in
theorem linGrows (l : List (List Int)) (_hw : ∀ xs ∈ l, ∀ x ∈ xs, -9223372036854775808 ≤ x ∧ x ≤ 9223372036854775807) (hl : l.length ≤ 9223372036854775807) (hm : ∀ xs ∈ l, xs.length ≤ 9223372036854775807) (a : Int) (_ha : -9223372036854775808 ≤ a ∧ a ≤ 9223372036854775807) (b : Int) (_hb : -9223372036854775808 ≤ b ∧ b ≤ 9223372036854775807) (ms : List MoveZ) (hms0 : ms.length ≤ 8796093022208) (mo : List MoveZ) (hmo0 : mo.length ≤ 8796093022208) :
    Does Tryd.prog 14 [cv (.slc 0 0 l.length none false), i64 a, i64 b, cv (.slc 1 0 ms.length none false), cv (.slc 2 0 mo.length none false)] [.rows2 true 1 (l.map fun xs => xs.map rowZ), .rows true 2 (ms.map rowMove), .rows true 2 (mo.map rowMove), rtH] fun v _ _ => v = bl true := by
  refine does Tryd.func14 rfl (by decide) ?_
  change Does Tryd.prog 16 _ _ _
  refine Does.alone 4 (gathered ?_)
  refine brc_intro (fun _ => rfl) (fun h => ?_)
  have hms : ms.length + mo.length ≤ 500 := by
    have h := of_decide_eq_false h
    have h : ¬ (IntKind.i64.wrap ((ms.length : Int) + (mo.length : Int)) > 500) := h
    rw [wrap_i64 _ (by omega) (by omega)] at h
    omega
  change Does Tryd.prog 17 _ _ _
  refine Does.on 4 [0] _ _ (guests (l := l) rfl hl hm ?_)
  obtain ⟨g1, g2, g3, _⟩ := guests_made l
  have hg : (guestsZ l).length = min l.length 6 := by
    rw [List.length_append] at g1
    exact Nat.add_right_cancel g1
  have g2 : ∀ x ∈ guestsZ l, x.length ≤ 6 := fun x hx => g2 x (List.mem_append_left _ hx)
  have g3 : ∀ x ∈ guestsZ l, ∀ c ∈ x, c ∈ guestT ++ ownL := fun x hx => g3 x (List.mem_append_left _ hx)
  generalize guestsZ l = calls at g1 g2 g3 hg
  have hn6 : min l.length 6 ≤ 6 := by omega
  generalize min l.length 6 = n at g1 hg hn6
  have hpb := pickZ_lt b (n := 5) (by decide)
  have hph := begPh_in a
  change Does Tryd.prog 34 _ _ _
  refine Does.alone 5 (begins a b ?_)
  generalize begPh a = ph at hph ⊢
  generalize pickZ b 5 = pa at hpb ⊢
  have hwz : pkWordZ false ph pa pa = pa + pa * 65536 + ph * 4294967296 := by simp [pkWordZ]
  have hwb : 0 ≤ pkWordZ false ph pa pa ∧ pkWordZ false ph pa pa < 18446744073709551616 := by
    rw [hwz]
    omega
  generalize pkWordZ false ph pa pa = w at hwb ⊢
  clear hwz
  have hI := fun m => lin_moves (ll := calls) (by omega) g2 g3 hwb m
  obtain ⟨z, hz⟩ : ∃ z, movesZ (mz0 (calls.map gathP) [w]) ms = z := ⟨_, rfl⟩
  have hI := hI ms
  rw [hz] at hI
  change Does Tryd.prog 35 _ _ _
  refine Does.on 7 [4, 6, 1] _ _ (made (ls := calls) (ps := calls.map gathP) (ws := [w]) (ms := ms) (f := 36) (n := n) (nc := 1) (ro := false) (ro2 := false) (ro3 := true) hg (by rw [List.length_map]; exact hg) rfl rfl (by omega) (by decide) (by omega) (fun p hp => ?_) (fun v hv => by obtain rfl := List.mem_singleton.1 hv; exact hwb) (hz := hz) (fun i l p hl hp K' hK' => ?_) fun v hv hw => ?_)
  · obtain ⟨l', hl', rfl⟩ := List.mem_map.1 hp
    exact asked_right (g2 l' hl') (g3 l' hl')
  · obtain rfl : gathP l = p := by
      rw [List.getElem?_map, hl] at hp
      exact Option.some.inj hp
    have hl' := List.mem_of_getElem? hl
    exact gatherCode' i i l hl (Nat.le_trans (g2 l hl') (by decide)) (fun c hc => asked_ok.1 c (g3 l hl' c hc)) hK'
  clear hz
  have hsteps := fun l => lin_steps (lin_bodies g3) rfl (lin_len calls) l z hI
  obtain ⟨gs, hJ⟩ := hI
  have hk := hJ.lim
  have hnE := hJ.num
  have hnA := hJ.numA
  have hinc := hJ.inc
  change Does Tryd.prog 47 _ _ _
  refine Does.on 16 [7, 8, 9, 10, 11, 12, 13, 14, 15] _ _ (coreActs (m := z) (v := v) (by omega) ?_)
  change Does Tryd.prog 48 _ _ _
  refine Does.on 17 [7, 8, 9, 10, 11, 12, 13, 14, 15] _ _ (coreEvents (m := z) (v := v) (by omega) ?_)
  change Does Tryd.prog 51 _ _ _
  refine Does.on 18 [4, 16, 17] _ _ (linPoints (calls := calls) (acts := z.al) (el := z.el) hg (by omega) rfl (by omega) rfl (by omega) (fun l hl => by have := g2 l hl; omega) (fun he => ?_) fun _ pts hS => ?_)
  · exfalso
    rw [hJ.ok] at he
    cases he
  have hpl : pts.length ≤ 40032 := by
    have := allPts_len calls z.al z.el
    rw [← hS.2.len] at this
    omega
  change Does Tryd.prog 38 _ _ _
  refine Does.on 19 [7, 8, 9, 10, 11, 12, 13, 14, 15] _ _ (answers (m := z) (v := v) hw n (by omega) ?_)
  refine SS.loop (fun s : Nat × MZ × VZ => s.1 ≤ mo.length ∧ s.2.1 = stepsZ z (mo.take s.1) ∧ WF s.2.1 ∧ okV s.2.2)
    (fun s => [(11, cv (.slc 4 0 n none false)), (15, cv (.ptr 7 0)), (16, cv (.slc 18 0 pts.length none false)), (17, cv .niliface), (18, cv (.slc 19 0 n none true)), (66, cv (.slc 2 0 mo.length none false)), (67, i64 mo.length), (68, i64 s.1)])
    (fun s => [.rows2 true 1 (l.map fun xs => xs.map rowZ), .rows true 2 (ms.map rowMove), .rows true 2 (mo.map rowMove), rtH, callsH false calls, .one [.f (.bool false), .f (.int .i64 ph), .f (.int .i64 pa), .f (.int .i64 pa)], .rows false 1 ([w].map rowU)] ++ machS 7 s.2.1 s.2.2 ++ [.rows false 6 (z.al.map rowAct), .rows false 4 (z.el.map rowEv), .rows false 4 (pts.map rowPt), .rows2 false 1 ((ansL n z.el).map fun l => l.map rowZ)]) (fun s => mo.length - s.1) [13, 14, 15]
    (At.mk' [11, 15, 16, 17, 18, 66, 67, 68] (0, z, v) ⟨Nat.zero_le _, rfl, hw, hv⟩ ⟨rfl, rfl⟩ rfl rfl (by simp) (by simp) (by simp)) ?_
  rintro ⟨i, z1, v1⟩ ⟨hi, hz1, hw1, hv1⟩
  dsimp only at hi hz1 hw1 hv1
  refine S_r ?_
  refine brc_intro (fun hlt => ?_) (fun hlt => ?_)
  · have hlt : i < mo.length := by
      have := of_decide_eq_true hlt
      have : (i : Int) < (mo.length : Int) := this
      omega
    obtain ⟨x, hx⟩ : ∃ x, mo[i]? = some x := ⟨_, List.getElem?_eq_getElem hlt⟩
    have wr : IntKind.i64.wrap ((i : Int) + 1) = ((i + 1 : Nat) : Int) := wrap_i64 _ (by omega) (by omega)
    have rx : (mo.map rowMove)[0 + Int.toNat (i : Int)]? = some (rowMove x) := by rw [Int.toNat_natCast, Nat.zero_add, List.getElem?_map, hx]; rfl
    have htk := stepsZ_take (m := z) hx
    rw [← hz1] at htk
    refine SS.inlR ?_
    refine at2 (a := (0 : Int) ≤ (i : Int)) (b := (i : Int) < (mo.length : Int)) (by omega) (by omega) (rdA (rowMove x) rx ?_)
    refine brc_intro (fun hp => ?_) (fun hp => ?_)
    · have hp : (!x.pk) = true := hp
      rw [if_neg (by simpa using hp)] at htk
      change Does Tryd.prog 54 _ _ _
      refine Does.on 21 [7, 8, 9, 10, 11, 12, 13, 14, 15] _ _ (coreStep (m := z1) (v := v1) hw1 hv1 x.th (fun _ v' hv' => ?_) fun _ v' hv' => ?_)
      · refine At.mk' [11, 15, 16, 17, 18, 66, 67, 68] (i + 1, (stepZ z1 x.th).2, v') ⟨⟨hlt, htk.symm, hw1.step _, hv'⟩, by show mo.length - (i + 1) < mo.length - i; omega⟩ ⟨?_, rfl⟩ rfl rfl (by simp) (by simp) (by decide)
        rw [wr]
        first | done | rfl
      · refine At.mk' [11, 15, 16, 17, 18, 66, 67, 68] (i + 1, (stepZ z1 x.th).2, v') ⟨⟨hlt, htk.symm, hw1.step _, hv'⟩, by show mo.length - (i + 1) < mo.length - i; omega⟩ ⟨?_, rfl⟩ rfl rfl (by simp) (by simp) (by decide)
        rw [wr]
        first | done | rfl
    · have hp : (!x.pk) = false := hp
      rw [if_pos (by simpa using hp)] at htk
      refine At.mk' [11, 15, 16, 17, 18, 66, 67, 68] (i + 1, z1, v1) ⟨⟨hlt, htk.symm, hw1, hv1⟩, by show mo.length - (i + 1) < mo.length - i; omega⟩ ⟨?_, rfl⟩ rfl rfl (by simp) (by simp) (by decide)
      rw [wr]
  · have hlt : ¬ (i : Int) < (mo.length : Int) := of_decide_eq_false hlt
    obtain rfl : i = mo.length := by omega
    rw [List.take_length] at hz1
    obtain ⟨⟨gs1, hJ1⟩, hGr⟩ := hsteps mo
    rw [← hz1] at hJ1 hGr
    have hk1 := hJ1.lim
    have hnE1 := hJ1.num
    have hnA1 := hJ1.numA
    have hinc1 := hJ1.inc
    change Does Tryd.prog 47 _ _ _
    refine Does.on 20 [7, 8, 9, 10, 11, 12, 13, 14, 15] _ _ (coreActs (m := z1) (v := v1) (by omega) ?_)
    change Does Tryd.prog 48 _ _ _
    refine Does.on 21 [7, 8, 9, 10, 11, 12, 13, 14, 15] _ _ (coreEvents (m := z1) (v := v1) (by omega) ?_)
    change Does Tryd.prog 51 _ _ _
    refine Does.on 22 [4, 20, 21] _ _ (linPoints (calls := calls) (acts := z1.al) (el := z1.el) hg (by omega) rfl (by omega) rfl (by omega) (fun l hl => by have := g2 l hl; omega) (fun he => ?_) fun _ ptd hD => ?_)
    · exfalso
      rw [hJ1.ok] at he
      cases he
    have hdl : ptd.length ≤ 40032 := by
      have := allPts_len calls z1.al z1.el
      rw [← hD.2.len] at this
      omega
    have hle : pts.length ≤ ptd.length := by
      rw [hS.2.len, hD.2.len]
      exact all_later hGr hJ.al hJ.el
    have hrow : ∀ t, t < n → ((ansL n z.el).map fun l => l.map rowZ)[t]? = some ((ansT t z.el).map rowZ) := fun t ht => by
      rw [List.getElem?_map, ansL, List.getElem?_map, List.getElem?_range ht]
      rfl
    have hal3 : ∀ t, (ansT t z.el).length = (endT t z.el).length := fun t => ans_end fun e he => (endsOk_mem hJ.ok e he).1
    generalize ((ansL n z.el).map fun l => l.map rowZ) = rss at hrow ⊢
    refine SS.loop (fun i : Nat => i ≤ pts.length)
      (fun i => [(16, cv (.slc 18 0 pts.length none false)), (18, cv (.slc 19 0 n none true)), (21, cv (.slc 22 0 ptd.length none false)), (95, cv (.slc 18 0 pts.length none false)), (96, i64 pts.length), (97, i64 i)])
      (fun _ => [.rows2 true 1 (l.map fun xs => xs.map rowZ), .rows true 2 (ms.map rowMove), .rows true 2 (mo.map rowMove), rtH, callsH false calls, .one [.f (.bool false), .f (.int .i64 ph), .f (.int .i64 pa), .f (.int .i64 pa)], .rows false 1 ([w].map rowU)] ++ machS 7 z1 v1 ++ [.rows false 6 (z.al.map rowAct), .rows false 4 (z.el.map rowEv), .rows false 4 (pts.map rowPt), .rows2 false 1 rss, .rows false 6 (z1.al.map rowAct), .rows false 4 (z1.el.map rowEv), .rows false 4 (ptd.map rowPt)]) (fun i => pts.length - i) [13, 14, 15]
      (At.mk' [16, 18, 21, 95, 96, 97] 0 (Nat.zero_le _) ⟨rfl, rfl⟩ rfl rfl (by simp) (by simp) (by simp)) ?_
    intro i hi
    change i ≤ pts.length at hi
    refine S_r ?_
    refine brc_intro (fun hlt => ?_) (fun hlt => ?_)
    · have hlt : i < pts.length := by
        have := of_decide_eq_true hlt
        have : (i : Int) < (pts.length : Int) := this
        omega
      obtain ⟨x, hx⟩ : ∃ x, pts[i]? = some x := ⟨_, List.getElem?_eq_getElem hlt⟩
      have hxa := hS.2.mem.1 (List.mem_of_getElem? hx)
      obtain ⟨t, k, ht, hk, htn, hkl, _, _⟩ := pt_within hS hinc (List.mem_of_getElem? hx)
      have hmem : k < (endT t z.el).length → x ∈ ptd := fun hk2 => hD.2.mem.2 (pt_later hGr hJ.al hJ.el hxa ht hk hk2)
      have h3 := hal3 t
      obtain ⟨xw, xt, xk, xl⟩ := x
      dsimp only at ht hk
      subst ht hk
      have hrt : rss[0 + Int.toNat (t : Int)]? = some ((ansT t z.el).map rowZ) := by rw [Int.toNat_natCast, Nat.zero_add]; exact hrow t (by omega)
      have hrl : ((ansT t z.el).map rowZ).length = (ansT t z.el).length := List.length_map ..
      have wr : IntKind.i64.wrap ((i : Int) + 1) = ((i + 1 : Nat) : Int) := wrap_i64 _ (by omega) (by omega)
      have rx : (pts.map rowPt)[0 + Int.toNat (i : Int)]? = some (rowPt ⟨xw, t, k, xl⟩) := by rw [Int.toNat_natCast, Nat.zero_add, List.getElem?_map, hx]; rfl
      have it : (0 : Int) ≤ (t : Int) ∧ (t : Int) < (n : Int) := by omega
      refine SS.inlR ?_
      refine at2 (a := (0 : Int) ≤ (i : Int)) (b := (i : Int) < (pts.length : Int)) (by omega) (by omega) (rdA (rowPt ⟨xw, t, k, xl⟩) rx ?_)
      refine brc_intro (fun h => ?_) (fun _ => ?_)
      · exfalso
        have h : (t : Int) ≥ (n : Int) := of_decide_eq_true h
        omega
      refine SS.drawR follows (by decide) ?_
      by_cases hB : (k : Int) < (((ansT t z.el).map rowZ).length : Int)
      · have dB : decide ((k : Int) < (((ansT t z.el).map rowZ).length : Int)) = true := decide_eq_true hB
        repeat' (first | refine draw_known (v := bl true) rfl (fun _ => rfl) (fun K' => congrArg (fun z => K' (bl z) [] _) dB) (fun _ => rfl) ?_ | refine draw_cond (v := cv (.rptr 19 (0 + Int.toNat (t : Int)) 0)) (C := (0 : Int) ≤ (t : Int) ∧ (t : Int) < (n : Int)) rfl (fun _ => rfl) (by intro _ c k; exact ⟨c.1, c.2, k⟩) (by intro _; rfl) it ?_ | refine draw_cond (v := cv (.islc 19 (0 + Int.toNat (t : Int)) 0 ((ansT t z.el).map rowZ).length none false)) (C := _) rfl (fun _ => rfl) (by intro _ c k; exact ⟨((ansT t z.el).map rowZ), c, k⟩) (by intro _; rfl) hrt ?_ | refine draw_known rfl (fun _ => rfl) (fun _ => rfl) (fun _ => rfl) ?_ | refine draw_skip rfl (fun _ => rfl) (fun _ => rfl) ?_ | refine draw_end rfl rfl rfl ?_ | fail)
        refine draw_eff1 rfl rfl ?_
        refine eff_run (fun _ => rfl) ?_
        change Does Tryd.prog 55 _ _ _
        refine Does.on 24 [22] _ _ (containsPt (x := ⟨xw, t, k, xl⟩) rfl (by omega) (hmem (by rw [hrl, h3] at hB; omega)) ?_)
        repeat' (first | refine And.intro rfl ?_ | refine And.intro (And.intro it.1 (And.intro it.2 rfl)) ?_ | refine And.intro (Exists.intro ((ansT t z.el).map rowZ) (And.intro hrt rfl)) ?_ | fail)
        change drawnR _ _ _ _ _ _ _ _ _ _
        repeat' (first | refine draw_known rfl (fun _ => rfl) (fun _ => rfl) (fun _ => rfl) ?_ | refine draw_end rfl rfl rfl ?_ | fail)
        refine At.mk' [16, 18, 21, 95, 96, 97] (i + 1) ⟨hlt, by show pts.length - (i + 1) < pts.length - i; omega⟩ ⟨?_, rfl⟩ rfl rfl (by simp) (by simp) (by decide)
        rw [wr]
      · have dB : decide ((k : Int) < (((ansT t z.el).map rowZ).length : Int)) = false := decide_eq_false hB
        repeat' (first | refine draw_known (v := bl false) rfl (fun _ => rfl) (fun K' => congrArg (fun z => K' (bl z) [] _) dB) (fun _ => rfl) ?_ | refine draw_cond (v := cv (.rptr 19 (0 + Int.toNat (t : Int)) 0)) (C := (0 : Int) ≤ (t : Int) ∧ (t : Int) < (n : Int)) rfl (fun _ => rfl) (by intro _ c k; exact ⟨c.1, c.2, k⟩) (by intro _; rfl) it ?_ | refine draw_cond (v := cv (.islc 19 (0 + Int.toNat (t : Int)) 0 ((ansT t z.el).map rowZ).length none false)) (C := _) rfl (fun _ => rfl) (by intro _ c k; exact ⟨((ansT t z.el).map rowZ), c, k⟩) (by intro _; rfl) hrt ?_ | refine draw_known rfl (fun _ => rfl) (fun _ => rfl) (fun _ => rfl) ?_ | refine draw_skip rfl (fun _ => rfl) (fun _ => rfl) ?_ | refine draw_end rfl rfl rfl ?_ | fail)
        refine draw_eff1 rfl rfl ?_
        refine eff_skip (fun _ => rfl) (fun _ => rfl) ?_
        repeat' (first | refine And.intro rfl ?_ | refine And.intro (And.intro it.1 (And.intro it.2 rfl)) ?_ | refine And.intro (Exists.intro ((ansT t z.el).map rowZ) (And.intro hrt rfl)) ?_ | fail)
        change drawnR _ _ _ _ _ _ _ _ _ _
        repeat' (first | refine draw_known rfl (fun _ => rfl) (fun _ => rfl) (fun _ => rfl) ?_ | refine draw_skip rfl (fun _ => rfl) (fun _ => rfl) ?_ | refine draw_end rfl rfl rfl ?_ | fail)
        refine At.mk' [16, 18, 21, 95, 96, 97] (i + 1) ⟨hlt, by show pts.length - (i + 1) < pts.length - i; omega⟩ ⟨?_, rfl⟩ rfl rfl (by simp) (by simp) (by decide)
        rw [wr]
    · exact congrArg bl (decide_eq_true (show (pts.length : Int) ≤ (ptd.length : Int) by omega))

end Go.Mac
