/- Pieces of a script: the walk. -/
import Derived.Test.YtnhldphlkklfiaaDoorQScripted
import Derived.Test.YtnhldphlkklfiaaDoorQPieceL
import Derived.Test.YtnhldphlkklfiaaDoorQEqPre
import Derived.Test.YtnhldphlkklfiaaDoorQCount
open Go Go.Proofs Go.Mac
set_option maxRecDepth 100000
namespace Go.Mac

theorem scrOf (t : List UInt8) : ∃ k n R : Nat, scrK t = k ∧ scrN t = n ∧ scrR t = R ∧ (1 ≤ k ∧ k ≤ 6) ∧ (1 ≤ n ∧ n ≤ 8) ∧ R ≤ 5 := by
  have h1 := scrK_in t
  have h2 := scrN_in t
  have h3 := scrR_in t
  exact ⟨(scrK t).toNat, (scrN t).toNat, (scrR t).toNat, by omega, by omega, by omega, by omega, by omega, by omega⟩

theorem padB_long {t : List UInt8} (h : 3 ≤ t.length) : padB t = t := by
  rw [padB, show 3 - t.length = 0 by omega, List.replicate_zero, List.append_nil]

theorem getD_app {t e : List UInt8} {j : Nat} (h : j < t.length) : (t ++ e).getD j 0 = t.getD j 0 := by
  rw [List.getD_eq_getElem?_getD, List.getD_eq_getElem?_getD, List.getElem?_append_left h]

theorem scr_more {t : List UInt8} (e : List UInt8) (h : 3 ≤ t.length) : scrK (t ++ e) = scrK t ∧ scrN (t ++ e) = scrN t ∧ scrR (t ++ e) = scrR t ∧ scrM (t ++ e) = scrM t ++ e.map (decM (scrN t)) := by
  have h2 : 3 ≤ (t ++ e).length := by rw [List.length_append]; omega
  have hn : scrN (t ++ e) = scrN t := by rw [scrN, scrN, padB_long h2, padB_long h, getD_app (by omega)]
  refine ⟨?_, hn, ?_, ?_⟩
  · rw [scrK, scrK, padB_long h2, padB_long h, getD_app (by omega)]
  · rw [scrR, scrR, padB_long h2, padB_long h, getD_app (by omega)]
  · rw [scrM, hn, scrM, padB_long h2, padB_long h, List.drop_append_of_le_length h, List.map_append]

theorem scrM_in (t : List UInt8) : ∀ x ∈ scrM t, 0 ≤ x.th ∧ x.th < scrN t := by
  intro x hx
  obtain ⟨b, _, rfl⟩ := List.mem_map.1 hx
  exact decM_in _ (by have := scrN_in t; omega) b

theorem scrM_len (t : List UInt8) : (scrM t).length ≤ t.length := by
  have h1 : (scrM t).length = (padB t).length - 3 := by rw [scrM, List.length_map, List.length_drop]
  have := padB_le t
  omega

section
variable {K : AV → List Nat → List PO → Prop}

theorem decodeN {t : List UInt8} {k n R : Nat} {ms : List MoveZ} {m : Nat} (ht : t.length ≤ 2000) (hk : scrK t = k) (hn : scrN t = n) (hr : scrR t = R) (hms : scrM t = ms) (hm : ms.length = m) (h : K (.p (.agg [.f (.int .i64 k), .f (.int .i64 n), .f (.int .i64 R), .slc 0 0 m none false])) [] [.rows false 2 (ms.map rowMove)]) :
    Does Tryd.prog 31 [st t] [] K := by
  refine decode t ht ?_
  rw [hk, hn, hr, hms, hm]
  exact h

theorem scriptPieces0 (t e : List UInt8) (ht : t.length ≤ 140737488355328) (he : e.length ≤ 140737488355328) (hK : K (bl true) [] []) : Does Tryd.prog 12 [st t, st e] [] K := by
  refine does Tryd.func12 rfl (by decide) ?_
  change Does Tryd.prog 29 _ _ _
  refine Does.alone 0 (scripted ?_)
  refine brc_intro (fun h3 => ?_) (fun h3 => ?_)
  · exact hK
  have h3 : ¬ t.length < 3 := fun h => by
    have h3 : ¬ (t.length : Int) < 3 := of_decide_eq_false h3
    omega
  refine brc_intro (fun _ => hK) (fun h9 => ?_)
  have hsum : t.length + e.length ≤ 900 := by
    have h9 : ¬ IntKind.i64.wrap ((t.length : Int) + (e.length : Int)) > 900 := of_decide_eq_false h9
    rw [wrap_i64 _ (by omega) (by omega)] at h9
    omega
  obtain ⟨k, n, R, hk, hn, hr, k1, n1, r1⟩ := scrOf t
  obtain ⟨ms, hms⟩ : ∃ ms, scrM t = ms := ⟨_, rfl⟩
  obtain ⟨m, hm⟩ : ∃ m, ms.length = m := ⟨_, rfl⟩
  obtain ⟨z, hz⟩ : ∃ z, movesZ (danceM k n R) ms = z := ⟨_, rfl⟩
  have hml : m ≤ 900 := by
    have := scrM_len t
    rw [hms, hm] at this
    omega
  have hmi : ∀ x ∈ ms, 0 ≤ x.th ∧ x.th < (n : Int) := fun x hx => by
    have := scrM_in t x (hms.symm ▸ hx)
    rwa [hn] at this
  change Does Tryd.prog 31 _ _ _
  refine Does.alone 0 (decodeN (t := t) (ms := ms) (m := m) (by omega) hk hn hr hms hm ?_)
  change Does Tryd.prog 30 _ _ _
  refine Does.on 1 [0] _ _ (play (ms := ms) (m := m) (z := z) k1 n1 r1 hm (by omega) hmi hz fun v hv hw => ?_)
  obtain ⟨hk', hn', hr', hms'⟩ : scrK (t ++ e) = k ∧ scrN (t ++ e) = n ∧ scrR (t ++ e) = R ∧ scrM (t ++ e) = ms ++ e.map (decM n) := by
    have := scr_more e (t := t) (by omega)
    rwa [hk, hn, hr, hms] at this
  obtain ⟨ms2, hms2⟩ : ∃ ms2, ms ++ e.map (decM n) = ms2 := ⟨_, rfl⟩
  rw [hms2] at hms'
  obtain ⟨m2, hm2⟩ : ∃ m2, ms2.length = m2 := ⟨_, rfl⟩
  obtain ⟨z2, hz2⟩ : ∃ z2, movesZ (danceM k n R) ms2 = z2 := ⟨_, rfl⟩
  have hm2e : m2 = m + e.length := by rw [← hm2, ← hms2, List.length_append, List.length_map, hm]
  have hmi2 : ∀ x ∈ ms2, 0 ≤ x.th ∧ x.th < (n : Int) := fun x hx => by
    have := scrM_in (t ++ e) x (hms'.symm ▸ hx)
    rwa [hn'] at this
  have hext : Ext z z2 e.length := by
    have := movesZ_ext (e.map (decM n)) (movesZ (danceM k n R) ms)
    rw [hz, List.length_map] at this
    rw [← hz2, ← hms2, movesZ, List.foldl_append]
    rw [← hz] at this ⊢
    exact this
  refine And.intro (by omega) ?_
  change Does Tryd.prog 31 _ _ _
  refine Does.alone 10 (decodeN (t := t ++ e) (ms := ms2) (m := m2) (by rw [List.length_append]; omega) hk' hn' hr' hms' hm2 ?_)
  change Does Tryd.prog 30 _ _ _
  refine Does.on 11 [10] _ _ (play (ms := ms2) (m := m2) (z := z2) k1 n1 r1 hm2 (by omega) hmi2 hz2 fun v2 hv2 hw2 => ?_)
  have hal := hw.al
  have hal2 := hw2.al
  have hel := hw.el
  have hel2 := hw2.el
  have hkk := hw.k
  have hkk2 := hw2.k
  change Does Tryd.prog 25 _ _ _
  refine Does.on 20 [1, 2, 3, 4, 5, 6, 7, 8, 9] _ _ (coreActs (m := z) (v := v) (by omega) ?_)
  change Does Tryd.prog 25 _ _ _
  refine Does.on 21 [11, 12, 13, 14, 15, 16, 17, 18, 19] _ _ (coreActs (m := z2) (v := v2) (by omega) ?_)
  change Does Tryd.prog 17 _ _ _
  refine Does.on 22 [1, 2, 3, 4, 5, 6, 7, 8, 9] _ _ (coreEvents (m := z) (v := v) (by omega) ?_)
  change Does Tryd.prog 17 _ _ _
  refine Does.on 23 [11, 12, 13, 14, 15, 16, 17, 18, 19] _ _ (coreEvents (m := z2) (v := v2) (by omega) ?_)
  have lal := hext.al.length_le
  have lel := hext.el.length_le
  refine brc_intro (fun _ => ?_) (fun h9 => ?_)
  rotate_left
  · have h9 : ¬ (z.al.length : Int) ≤ (z2.al.length : Int) := of_decide_eq_false h9
    omega
  refine brc_intro (fun _ => ?_) (fun h9 => ?_)
  rotate_left
  · have h9 : ¬ (z.el.length : Int) ≤ (z2.el.length : Int) := of_decide_eq_false h9
    omega
  refine Or.inl (And.intro (a := (0 : Int) ≤ (z.al.length : Int)) (b := _) (by omega) (And.intro (a := (z.al.length : Int) ≤ (z2.al.length : Int)) (by omega) ?_))
  change Does Tryd.prog 32 _ _ _
  refine Does.on 24 [20, 21] _ _ (equalActP (xs := z.al) (ys := z2.al) (n := z.al.length) rfl (by omega) hext.al ?_)
  refine Or.inl (And.intro (a := (0 : Int) ≤ (z.el.length : Int)) (b := _) (by omega) (And.intro (a := (z.el.length : Int) ≤ (z2.el.length : Int)) (by omega) ?_))
  change Does Tryd.prog 33 _ _ _
  refine Does.on 24 [22, 23] _ _ (equalEvP (xs := z.el) (ys := z2.el) (n := z.el.length) rfl (by omega) hext.el ?_)
  change Does Tryd.prog 22 _ _ _
  refine Does.on 24 [11, 12, 13, 14, 15, 16, 17, 18, 19] _ _ (coreSteps (m := z2) (v := v2) ?_)
  change Does Tryd.prog 22 _ _ _
  refine Does.on 24 [1, 2, 3, 4, 5, 6, 7, 8, 9] _ _ (coreSteps (m := z) (v := v) ?_)
  have hkx := hext.k
  have hfin : decide ((z2.k : Int) ≤ IntKind.i64.wrap ((z.k : Int) + (e.length : Int))) = true := by
    rw [wrap_i64 _ (by omega) (by omega)]
    exact decide_eq_true (by omega)
  have hK' : K (bl (decide ((z2.k : Int) ≤ IntKind.i64.wrap ((z.k : Int) + (e.length : Int))))) [] [] := by
    rw [hfin]
    exact hK
  exact hK'

theorem scriptPieces (t : List UInt8) (ht : t.length ≤ 140737488355328) (e : List UInt8) (he : e.length ≤ 140737488355328) : Does Tryd.prog 12 [st t, st e] [rtH] fun v _ _ => v = bl true :=
  Does.alone 1 (scriptPieces0 t e ht he rfl)

end
end Go.Mac
