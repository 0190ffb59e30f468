/- Each call's points lie between what was told ahead of it and what it was told: GatherWithin. -/
import Derived.Test.YtlimhldkkbaohaaDoorQLinK
import Derived.Test.YtlimhldkkbaohaaDoorQPtsW
import Derived.Test.YtlimhldkkbaohaaDoorQGuests
import Derived.Test.YtlimhldkkbaohaaDoorQBegins
import Derived.Test.YtlimhldkkbaohaaDoorQGathered
import Derived.Test.YtlimhldkkbaohaaDoorGCount
import Derived.Test.YtlimhldkkbaohaaDoorGMapA
open Go Go.Proofs Go.Mac
set_option maxRecDepth 100000
namespace Go.Mac
attribute [local irreducible] drawnR

set_option maxHeartbeats 8000000 in
theorem gatherWithin (l : List (List Int)) (_hw : ∀ xs ∈ l, ∀ x ∈ xs, -9223372036854775808 ≤ x ∧ x ≤ 9223372036854775807) (hl : l.length ≤ 9223372036854775807) (hm : ∀ xs ∈ l, xs.length ≤ 9223372036854775807) (a : Int) (_ha : -9223372036854775808 ≤ a ∧ a ≤ 9223372036854775807) (b : Int) (_hb : -9223372036854775808 ≤ b ∧ b ≤ 9223372036854775807) (ms : List MoveZ) :
    Does Tryd.prog 13 [cv (.slc 0 0 l.length none false), i64 a, i64 b, cv (.slc 1 0 ms.length none false)] [.rows2 true 1 (l.map fun xs => xs.map rowZ), .rows true 2 (ms.map rowMove), rtH] fun v _ _ => v = bl true := by
  refine does Tryd.func13 rfl (by decide) ?_
  change Does Tryd.prog 16 _ _ _
  refine Does.alone 3 (gathered ?_)
  refine brc_intro (fun _ => rfl) (fun h => ?_)
  have hms : ms.length ≤ 500 := by
    have := of_decide_eq_false h
    omega
  change Does Tryd.prog 17 _ _ _
  refine Does.on 3 [0] _ _ (guests (l := l) rfl hl hm ?_)
  obtain ⟨g1, g2, g3, _⟩ := guests_made l
  have hg : (guestsZ l).length = min l.length 6 := by
    rw [List.length_append] at g1
    exact Nat.add_right_cancel g1
  have g2 : ∀ x ∈ guestsZ l, x.length ≤ 6 := fun x hx => g2 x (List.mem_append_left _ hx)
  have g3 : ∀ x ∈ guestsZ l, ∀ c ∈ x, c ∈ guestT ++ ownL := fun x hx => g3 x (List.mem_append_left _ hx)
  generalize guestsZ l = calls at g1 g2 g3 hg
  have hn6 : min l.length 6 ≤ 6 := by omega
  generalize min l.length 6 = n at g1 hg hn6
  have hpb := pickZ_lt b (n := 5) (by decide)
  have hph := begPh_in a
  change Does Tryd.prog 34 _ _ _
  refine Does.alone 4 (begins a b ?_)
  generalize begPh a = ph at hph ⊢
  generalize pickZ b 5 = pa at hpb ⊢
  have hwz : pkWordZ false ph pa pa = pa + pa * 65536 + ph * 4294967296 := by simp [pkWordZ]
  have hwb : 0 ≤ pkWordZ false ph pa pa ∧ pkWordZ false ph pa pa < 18446744073709551616 := by
    rw [hwz]
    omega
  generalize pkWordZ false ph pa pa = w at hwb ⊢
  clear hwz
  have hI := fun m => lin_moves (ll := calls) (by omega) g2 g3 hwb m
  obtain ⟨z, hz⟩ : ∃ z, movesZ (mz0 (calls.map gathP) [w]) ms = z := ⟨_, rfl⟩
  have hI := hI ms
  rw [hz] at hI
  change Does Tryd.prog 35 _ _ _
  refine Does.on 6 [3, 5, 1] _ _ (made (ls := calls) (ps := calls.map gathP) (ws := [w]) (ms := ms) (f := 36) (n := n) (nc := 1) (ro := false) (ro2 := false) (ro3 := true) hg (by rw [List.length_map]; exact hg) rfl rfl (by omega) (by decide) (by omega) (fun p hp => ?_) (fun v hv => by obtain rfl := List.mem_singleton.1 hv; exact hwb) (hz := hz) (fun i l p hl hp K' hK' => ?_) fun v hv hw => ?_)
  · obtain ⟨l', hl', rfl⟩ := List.mem_map.1 hp
    exact asked_right (g2 l' hl') (g3 l' hl')
  · obtain rfl : gathP l = p := by
      rw [List.getElem?_map, hl] at hp
      exact Option.some.inj hp
    have hl' := List.mem_of_getElem? hl
    exact gatherCode' i i l hl (Nat.le_trans (g2 l hl') (by decide)) (fun c hc => asked_ok.1 c (g3 l hl' c hc)) hK'
  clear hz
  obtain ⟨gs, hJ⟩ := hI
  have hk := hJ.lim
  have hnE := hJ.num
  have hnA := hJ.numA
  have hinc := hJ.inc
  change Does Tryd.prog 47 _ _ _
  refine Does.on 15 [6, 7, 8, 9, 10, 11, 12, 13, 14] _ _ (coreActs (m := z) (v := v) (by omega) ?_)
  change Does Tryd.prog 48 _ _ _
  refine Does.on 16 [6, 7, 8, 9, 10, 11, 12, 13, 14] _ _ (coreEvents (m := z) (v := v) (by omega) ?_)
  change Does Tryd.prog 51 _ _ _
  refine Does.on 17 [3, 15, 16] _ _ (linPoints (calls := calls) (acts := z.al) (el := z.el) hg (by omega) rfl (by omega) rfl (by omega) (fun l hl => by have := g2 l hl; omega) (fun he => ?_) fun _ pts hS => ?_)
  · exfalso
    rw [hJ.ok] at he
    cases he
  change Does Tryd.prog 48 _ _ _
  refine Does.on 20 [6, 7, 8, 9, 10, 11, 12, 13, 14] _ _ (coreEvents (m := z) (v := v) (by omega) ?_)
  have hev := endsOk_mem hJ.ok
  have hpl : pts.length ≤ 40032 := by
    have := allPts_len calls z.al z.el
    rw [← hS.2.len] at this
    omega
  refine SS.loop (fun s : Nat × MapZ × Nat × MapZ × Nat => s.1 ≤ z.el.length ∧ MapW s.2.1 s.2.2.1 ∧ ToldM s.2.1 (z.el.take s.1) ∧ ∀ t : Nat, mpGet s.2.2.2.1 [(t : Int)] = ((endT t (z.el.take s.1)).length : Int))
    (fun s => [(14, cv (.slc 17 0 pts.length none false)), (16, cv (.map 18)), (17, cv (.map 19)), (66, cv (.slc 20 0 z.el.length none false)), (67, i64 z.el.length), (68, i64 s.1)])
    (fun s => [.rows2 true 1 (l.map fun xs => xs.map rowZ), .rows true 2 (ms.map rowMove), rtH, callsH false calls, .one [.f (.bool false), .f (.int .i64 ph), .f (.int .i64 pa), .f (.int .i64 pa)], .rows false 1 ([w].map rowU)] ++ machS 6 z v ++ [.rows false 6 (z.al.map rowAct), .rows false 4 (z.el.map rowEv), .rows false 4 (pts.map rowPt), .mp 2 false s.2.1 s.2.2.1, .mp 0 false s.2.2.2.1 s.2.2.2.2, .rows false 4 (z.el.map rowEv)]) (fun s => z.el.length - s.1) []
    (At.mk' [14, 16, 17, 66, 67, 68] (0, [], 0, [], 0) ⟨Nat.zero_le _, MapW.nil, ToldM.nil, fun t => rfl⟩ ⟨rfl, rfl⟩ rfl rfl (by simp) (by simp) (by simp)) ?_
  rintro ⟨i, es, clk, fs, clf⟩ ⟨hi, hmw, htm, hmy⟩
  dsimp only at hi hmw htm hmy
  refine S_r ?_
  refine brc_intro (fun hlt => ?_) (fun hlt => ?_)
  · have hlt : i < z.el.length := by
      have := of_decide_eq_true hlt
      have : (i : Int) < (z.el.length : Int) := this
      omega
    obtain ⟨e, he⟩ : ∃ e, z.el[i]? = some e := ⟨_, List.getElem?_eq_getElem hlt⟩
    have htk : z.el.take (i + 1) = z.el.take i ++ [e] := by rw [List.take_add_one, he]; rfl
    obtain ⟨_, he0, hen⟩ := hev e (List.mem_of_getElem? he)
    obtain ⟨t, ht⟩ : ∃ t : Nat, e.t = t := ⟨e.t.toNat, by omega⟩
    obtain ⟨ew, ea, et, ev⟩ := e
    dsimp only at ht
    subst ht
    have wr : IntKind.i64.wrap ((i : Int) + 1) = ((i + 1 : Nat) : Int) := wrap_i64 _ (by omega) (by omega)
    have rx : (z.el.map rowEv)[0 + Int.toNat (i : Int)]? = some (rowEv ⟨ew, ea, t, ev⟩) := by rw [Int.toNat_natCast, Nat.zero_add, List.getElem?_map, he]; rfl
    have hlen := endT_len t (z.el.take i)
    rw [List.length_take] at hlen
    have hg := hmy t
    refine at2 (a := (0 : Int) ≤ (i : Int)) (b := (i : Int) < (z.el.length : Int)) (by omega) (by omega) (rdA (rowEv ⟨ew, ea, t, ev⟩) rx ?_)
    have wm : IntKind.i64.wrap (mpGet fs [(t : Int)] + 1) = (((endT t (z.el.take i)).length + 1 : Nat) : Int) := by rw [hg]; exact (wrap_i64 _ (by omega) (by omega)).trans (by omega)
    refine At.mk' [14, 16, 17, 66, 67, 68] (i + 1, mpPut es [(t : Int), mpGet fs [(t : Int)]] ew clk, mpClk es [(t : Int), mpGet fs [(t : Int)]] clk, mpPut fs [(t : Int)] (IntKind.i64.wrap (mpGet fs [(t : Int)] + 1)) clf, mpClk fs [(t : Int)] clf) ⟨⟨hlt, hmw.put _ _, ?_, fun s => ?_⟩, by show z.el.length - (i + 1) < z.el.length - i; omega⟩ ⟨?_, rfl⟩ rfl rfl (by simp) (by simp) (by decide)
    · dsimp only
      rw [htk, hg]
      exact htm.put (e := ⟨ew, ea, t, ev⟩) rfl clk
    · dsimp only
      rw [mpGet_put, htk, endT_snoc, wm]
      by_cases hst : s = t
      · subst hst
        rw [if_pos rfl, if_pos rfl, List.length_append]
        rfl
      · rw [if_neg fun h => hst (by have := (List.cons.inj h).1; omega), if_neg fun h => hst (by have h : (t : Int) = (s : Int) := h; omega)]
        exact hmy s
    · rw [wr]
  · have hlt : ¬ (i : Int) < (z.el.length : Int) := of_decide_eq_false hlt
    obtain rfl : i = z.el.length := by omega
    rw [List.take_length] at htm hmy
    have htold := hJ.told
    have hwin := hJ.win
    have hpn : ∀ t, t < n → ∀ k, k ≤ (endT t z.el).length → 0 ≤ prevT (endT t z.el) k := fun t ht k => by
      have htc : t < calls.length := by omega
      induction k with
      | zero => intro _; exact Int.le_refl _
      | succ k ih =>
        intro hk
        have hw := List.getElem?_eq_getElem (show k < (endT t z.el).length by omega)
        obtain ⟨a, _, _, _, a4, a5⟩ := hwin t htc k _ hw
        have := ih (by omega)
        rw [prevT, if_neg (by omega), Nat.add_sub_cancel, List.getD_eq_getElem?_getD, hw]
        show 0 ≤ (endT t z.el)[k]
        omega
    refine SS.loop (fun s : Nat × Int => s.1 ≤ pts.length ∧ ∀ x, pts[s.1]? = some x → s.2 ≤ x.w)
      (fun s => [(14, cv (.slc 17 0 pts.length none false)), (16, cv (.map 18)), (17, cv (.map 19)), (20, i64 s.2), (88, cv (.slc 17 0 pts.length none false)), (89, i64 pts.length), (90, i64 s.1)])
      (fun s => [.rows2 true 1 (l.map fun xs => xs.map rowZ), .rows true 2 (ms.map rowMove), rtH, callsH false calls, .one [.f (.bool false), .f (.int .i64 ph), .f (.int .i64 pa), .f (.int .i64 pa)], .rows false 1 ([w].map rowU)] ++ machS 6 z v ++ [.rows false 6 (z.al.map rowAct), .rows false 4 (z.el.map rowEv), .rows false 4 (pts.map rowPt), .mp 2 false es clk, .mp 0 false fs clf]) (fun s => pts.length - s.1) []
      (At.mk' [14, 16, 17, 20, 88, 89, 90] (0, 0) ⟨Nat.zero_le _, fun x hx => ?_⟩ ⟨rfl, rfl⟩ rfl rfl (by simp) (by simp) (by simp)) ?_
    · obtain ⟨t, k, _, _, htn, hkl, hpv, _⟩ := pt_within hS hinc (List.mem_of_getElem? hx)
      have := hpn t (by omega) k hkl
      show 0 ≤ x.w
      omega
    rintro ⟨i, was⟩ ⟨hi, hwas⟩
    dsimp only at hi hwas
    refine S_r ?_
    refine brc_intro (fun hlt => ?_) (fun hlt => ?_)
    · have hlt : i < pts.length := by
        have := of_decide_eq_true hlt
        have : (i : Int) < (pts.length : Int) := this
        omega
      obtain ⟨x, hx⟩ : ∃ x, pts[i]? = some x := ⟨_, List.getElem?_eq_getElem hlt⟩
      obtain ⟨t, k, ht, hk, htn, hkl, hpv, hnx⟩ := pt_within hS hinc (List.mem_of_getElem? hx)
      have hw1 := hwas x hx
      have hnext : ∀ y, pts[i + 1]? = some y → x.w ≤ y.w := fun y hy => hS.1.get (by omega) hx hy
      obtain ⟨xw, xt, xk, xl⟩ := x
      dsimp only at ht hk hpv hnx hw1 hnext
      subst ht hk
      have hkn : (k : Int) ≤ 40000 := by have := endT_len t z.el; omega
      have wr : IntKind.i64.wrap ((i : Int) + 1) = ((i + 1 : Nat) : Int) := wrap_i64 _ (by omega) (by omega)
      have wk : IntKind.i64.wrap ((k : Int) - 1) = (k : Int) - 1 := wrap_i64 _ (by omega) (by omega)
      have e1 : mpGet es [(t : Int), IntKind.i64.wrap ((k : Int) - 1)] = prevT (endT t z.el) k := by rw [wk]; exact htm.prev hkl
      have e2 := hmy t
      have rx : (pts.map rowPt)[0 + Int.toNat (i : Int)]? = some (rowPt ⟨xw, t, k, xl⟩) := by rw [Int.toNat_natCast, Nat.zero_add, List.getElem?_map, hx]; rfl
      refine SS.inlR ?_
      refine at2 (a := (0 : Int) ≤ (i : Int)) (b := (i : Int) < (pts.length : Int)) (by omega) (by omega) (rdA (rowPt ⟨xw, t, k, xl⟩) rx ?_)
      refine brc_intro (fun h => ?_) (fun _ => ?_)
      · exfalso
        have h : xw < was := of_decide_eq_true h
        omega
      refine brc_intro (fun h => ?_) (fun _ => ?_)
      · exfalso
        have h : xw ≤ mpGet es [(t : Int), IntKind.i64.wrap ((k : Int) - 1)] := of_decide_eq_true h
        omega
      refine brc_intro (fun hh => ?_) (fun _ => ?_)
      · have hkk := htm.has2.1 hh
        obtain ⟨to, hto⟩ : ∃ to, (endT t z.el)[k]? = some to := ⟨_, List.getElem?_eq_getElem hkk⟩
        have e3 := htm.get t k to hto
        have hlt3 := hnx to hto
        refine brc_intro (fun h => ?_) (fun _ => ?_)
        · exfalso
          have h : xw ≥ mpGet es [(t : Int), (k : Int)] := of_decide_eq_true h
          omega
        refine brc_intro (fun h => ?_) (fun _ => ?_)
        · exfalso
          have h : (k : Int) > mpGet fs [(t : Int)] := of_decide_eq_true h
          omega
        refine At.mk' [14, 16, 17, 20, 88, 89, 90] (i + 1, xw) ⟨⟨hlt, hnext⟩, by show pts.length - (i + 1) < pts.length - i; omega⟩ ⟨?_, rfl⟩ rfl rfl (by simp) (by simp) (by decide)
        rw [wr]
      · refine brc_intro (fun h => ?_) (fun _ => ?_)
        · exfalso
          have h : (k : Int) > mpGet fs [(t : Int)] := of_decide_eq_true h
          omega
        refine At.mk' [14, 16, 17, 20, 88, 89, 90] (i + 1, xw) ⟨⟨hlt, hnext⟩, by show pts.length - (i + 1) < pts.length - i; omega⟩ ⟨?_, rfl⟩ rfl rfl (by simp) (by simp) (by decide)
        rw [wr]
    · refine SS.loop (fun _ : List Nat => True) (fun _ => [(14, cv (.slc 17 0 pts.length none false)), (16, cv (.map 18)), (144, cv (.ptr 20 0))])
        (fun seen => [.rows2 true 1 (l.map fun xs => xs.map rowZ), .rows true 2 (ms.map rowMove), rtH, callsH false calls, .one [.f (.bool false), .f (.int .i64 ph), .f (.int .i64 pa), .f (.int .i64 pa)], .rows false 1 ([w].map rowU)] ++ machS 6 z v ++ [.rows false 6 (z.al.map rowAct), .rows false 4 (z.el.map rowEv), .rows false 4 (pts.map rowPt), .mp 2 false es clk, .mp 0 false fs clf, .it false 18 clk seen clk]) (fun seen => (leftE es seen).length) []
        (At.mk' [14, 16, 144] [] trivial ⟨rfl, rfl⟩ rfl rfl (by simp) (by simp) (by decide)) ?_
      intro seen _
      refine S_r ?_
      refine And.intro (fun e he => ⟨hmw.old e he, hmw.old e he⟩) (And.intro (fun _ => ?_) (fun e he => ?_))
      · exact rfl
      · obtain ⟨⟨e', hf, he'⟩, hdec⟩ := left_one he
        obtain ⟨t, k, w2, hkey, hw2⟩ := (htm.has e'.1).1 (mpHas_iff.2 (List.mem_map.2 ⟨e', he', rfl⟩))
        obtain ⟨ks, y, bn⟩ := e'
        dsimp only at hkey
        subst hkey
        have htn : t < calls.length := by
          have hm := List.mem_of_getElem? hw2
          rw [endT] at hm
          obtain ⟨e3, he3, _⟩ := List.mem_map.1 hm
          obtain ⟨h3, h4⟩ := List.mem_filter.1 he3
          have h4 : e3.t = (t : Int) := by simpa using h4
          have := (hev e3 h3).2.2
          omega
        have hcl := hJ.pl t htn
        have hex : ∃ x ∈ pts, x.t = t ∧ x.k = k := pt_some hS hinc htn (by
          rw [htold t htn, lin_len calls t htn]
          exact hcl.1) hw2 (hwin t htn k w2 hw2)
        refine And.intro rfl (Exists.intro e.2.2 (Exists.intro ([(t : Int), (k : Int)], y, bn) (And.intro (by simp) (And.intro hf ?_))))
        change Does Tryd.prog 52 _ _ _
        refine Does.on 22 [17, 21] _ _ (hasKey (pts := pts) (t := (t : Int)) (k := (k : Int)) (n := pts.length) (ro := false) (nn := false) rfl (by omega) hex ?_)
        exact At.mk' [14, 16, 144] (seen ++ [e.2.2]) ⟨trivial, hdec⟩ ⟨rfl, rfl⟩ rfl rfl (by simp) (by simp) (by decide)

end Go.Mac
