/- Who is at its end stays there: the law, and the walk. -/
import Derived.Test.YtdcpdfgpdomolaaGreatDoorQWritten
import Derived.Test.YtdcpdfgpdomolaaGreatDoorQBehind
import Derived.Test.YtdcpdfgpdomolaaGreatDoorQTell
import Derived.Test.YtdcpdfgpdomolaaGreatDoorQGone
import Derived.Test.YtdcpdfgpdomolaaGreatDoorQApart
import Derived.Test.YtdcpdfgpdomolaaGreatDoorGFinish
import Derived.Test.YtdcpdfgpdomolaaGreatDoorQSub
import Derived.Test.YtdcpdfgpdomolaaGreatDoorQActs
open Go Go.Proofs Go.Mac
set_option maxRecDepth 100000
namespace Go.Mac

/-- Who is at its end among the first ones. -/
def endL (z : MZ) (i : Nat) : List Int := ((List.range i).filter fun t => (thZ z t).dn).map Int.ofNat

theorem endL_succ (z : MZ) (i : Nat) : endL z (i + 1) = if (thZ z i).dn = true then endL z i ++ [(i : Int)] else endL z i := by
  rw [endL, List.range_succ, List.filter_append, List.map_append]
  by_cases h : (thZ z i).dn = true
  · rw [if_pos h]
    simp [endL, h]
  · rw [if_neg h]
    simp [endL, h]

theorem endL_len (z : MZ) (i : Nat) : (endL z i).length ≤ i := by
  rw [endL, List.length_map]
  exact Nat.le_trans (List.length_filter_le _ _) (by simp)

theorem endL_mem {z : MZ} {i : Nat} {t : Int} (h : t ∈ endL z i) : ∃ s : Nat, t = s ∧ s < i ∧ (thZ z s).dn = true := by
  obtain ⟨s, hs, rfl⟩ := List.mem_map.1 h
  obtain ⟨h1, h2⟩ := List.mem_filter.1 hs
  exact ⟨s, rfl, List.mem_range.1 h1, h2⟩

theorem ended_step {m : MZ} {s : Nat} (hl : s < m.ts.length) (h : (thZ m s).dn = true) : stepZ m s = (6, m) := by
  rw [stepZ, if_neg (by omega), Int.toNat_natCast, if_pos h]

theorem ended_move {m : MZ} (hw : WF m) {s : Nat} (hl : s < m.ts.length) (h : (thZ m s).dn = true) (x : MoveZ) : s < (moveZ m x).ts.length ∧ (thZ (moveZ m x) s).dn = true := by
  rw [moveZ]
  split
  · exact ⟨hl, h⟩
  · by_cases e : (s : Int) = x.th
    · rw [← e, ended_step hl h]
      exact ⟨hl, h⟩
    · obtain ⟨h1, h2, _⟩ := apart_step hw (t := x.th) (o := s) e
      have h2 := h2 (by omega)
      rw [Int.toNat_natCast] at h2
      rw [h2, h1]
      exact ⟨hl, h⟩

theorem ended_moves {s : Nat} : ∀ (l : List MoveZ) {m : MZ}, WF m → s < m.ts.length → (thZ m s).dn = true → s < (movesZ m l).ts.length ∧ (thZ (movesZ m l) s).dn = true
  | [], _, _, hl, h => ⟨hl, h⟩
  | x :: l, m, hw, hl, h => by
    obtain ⟨h1, h2⟩ := ended_move hw hl h x
    exact ended_moves l (hw.move x) h1 h2

section
variable {K : AV → List Nat → List PO → Prop}

theorem gzE {xs : List Int} {i : Nat} {x : Int} (h : xs[i]? = some x) : (xs.map rowZ)[0 + Int.toNat (i : Int)]? = some (rowZ x) := by simp [h]

theorem containsZ {xs : List Int} {n : Nat} {c : Option Nat} {nn ro : Bool} (t : Int) (hl : xs.length = n) (hn : n < 1000000) (h1 : t ∈ xs → K (bl true) [] [.rows ro 1 (xs.map rowZ)]) (h0 : t ∉ xs → K (bl false) [] [.rows ro 1 (xs.map rowZ)]) :
    Does Tryz.prog 21 [cv (.slc 0 0 n c nn), i64 t] [.rows ro 1 (xs.map rowZ)] K := by
  refine does Tryz.func21 rfl (by decide) ?_
  change Does Tryz.prog 38 _ _ _
  refine does Tryz.func38 rfl (by decide) ?_
  refine SS.loop (fun i : Nat => i ≤ n ∧ ∀ (j : Nat) (x : Int), j < i → xs[j]? = some x → x ≠ t) (fun i => [(0, cv (.slc 0 0 n c nn)), (1, i64 t), (7, i64 n), (8, i64 i)]) (fun _ => [.rows ro 1 (xs.map rowZ)]) (fun i => n - i) []
    (At.mk' [0, 1, 7, 8] 0 (by simp) ⟨rfl, rfl⟩ rfl rfl (by simp) (by simp) (by simp)) ?_
  rintro i ⟨hi, hj⟩
  refine S_r ?_
  refine brc_intro (fun hlt => ?_) (fun hlt => ?_)
  · have hlt : i < n := by have := of_decide_eq_true hlt; omega
    obtain ⟨x, hx⟩ : ∃ x, xs[i]? = some x := ⟨_, List.getElem?_eq_getElem (by omega)⟩
    refine SS.inlR ?_
    refine at2 (by omega) (by omega) (rd1 (rowZ x) (.int .i64 x) (gzE hx) rfl ?_)
    refine brc_intro (fun h' => ?_) (fun h' => ?_)
    · have e : t = x := by simpa using h'
      have h1 := h1 (by rw [e]; exact List.mem_of_getElem? hx)
      exact h1
    have e : t ≠ x := by simpa using h'
    refine At.mk' [0, 1, 7, 8] (i + 1) ⟨⟨hlt, fun j y hj' hy => ?_⟩, by omega⟩ ⟨?_, rfl⟩ rfl rfl (by simp) (by simp) (by simp)
    · rcases Nat.lt_succ_iff_lt_or_eq.1 hj' with hl | rfl
      · exact hj j y hl hy
      · rw [hx] at hy; cases hy; exact Ne.symm e
    · rw [wrap_i64 _ (by omega) (by omega)]
      rfl
  · have hlt : ¬ (i : Int) < (n : Int) := of_decide_eq_false hlt
    have h0 := h0 fun hm => by
      obtain ⟨j, hj'⟩ := List.mem_iff_getElem?.1 hm
      have := (List.getElem?_eq_some_iff.1 hj').1
      exact absurd rfl (hj j t (by omega) hj')
    exact h0

theorem endsAny {el : List Int} {n : Nat} {z : MZ} {v : VZ} {nn : Bool} (hw : WF z) (hn : el.length = n) (hb : n ≤ 1000000) (hc : ∀ t ∈ el, canZ z t = false) (h : K (bl false) [] ([.rows false 1 (el.map rowZ), .one [.ptr 2 0]] ++ machS 2 z v)) :
    Does Tryz.prog 22 [cv (.slc 0 0 n none nn), cv (.func 23 [1])] ([.rows false 1 (el.map rowZ), .one [.ptr 2 0]] ++ machS 2 z v) K := by
  refine does Tryz.func22 rfl (by decide) ?_
  change Does Tryz.prog 39 _ _ _
  refine does Tryz.func39 rfl (by decide) ?_
  refine SS.loop (fun i : Nat => i ≤ n) (fun i => [(0, cv (.slc 0 0 n none nn)), (1, cv (.func 23 [1])), (7, i64 n), (8, i64 i)]) (fun _ => [.rows false 1 (el.map rowZ), .one [.ptr 2 0]] ++ machS 2 z v) (fun i => n - i) []
    (At.mk' [0, 1, 7, 8] 0 (Nat.zero_le _) ⟨rfl, rfl⟩ rfl rfl (by simp) (by simp) (by simp)) ?_
  intro i hi
  change i ≤ n at hi
  refine S_r ?_
  refine brc_intro (fun hlt => ?_) (fun hlt => ?_)
  · have hlt : i < n := by
      have := of_decide_eq_true hlt
      have : (i : Int) < (n : Int) := this
      omega
    obtain ⟨x, hx⟩ : ∃ x, el[i]? = some x := ⟨_, List.getElem?_eq_getElem (by omega)⟩
    refine SS.inlR ?_
    refine at2 (a := (0 : Int) ≤ (i : Int)) (b := (i : Int) < (n : Int)) (by omega) (by omega) (rd1 (rowZ x) (.int .i64 x) (gzE hx) rfl ?_)
    change Does Tryz.prog 23 _ _ _
    refine does Tryz.func23 rfl (by decide) ?_
    change Does Tryz.prog 15 _ _ _
    refine Does.on 11 [2, 3, 4, 5, 6, 7, 8, 9, 10] _ _ (coreCan (m := z) (v := v) hw x ?_)
    rw [hc x (List.mem_of_getElem? hx)]
    refine At.mk' [0, 1, 7, 8] (i + 1) ⟨hlt, by omega⟩ ⟨?_, rfl⟩ rfl rfl (by simp) (by simp) (by simp)
    rw [wrap_i64 (i + 1) (by omega) (by omega)]
    rfl
  · exact h

theorem coreEnds2 (ps : List (List InsZ)) (hl : ps.length ≤ 9223372036854775807) (ws : List Int) (hws : ∀ x ∈ ws, 0 ≤ x ∧ x < 18446744073709551616) (hwl : ws.length ≤ 9223372036854775807) (ms : List MoveZ) (hml : ms.length ≤ 8796093022208) (more : List MoveZ) (hmr : more.length ≤ 8796093022208) :
    Does Tryz.prog 5 [cv (.slc 0 0 ps.length none false), cv (.slc 1 0 ws.length none false), cv (.slc 2 0 ms.length none false), cv (.slc 3 0 more.length none false)] [.rows2 true 5 (ps.map fun p => p.map rowIns), .rows true 1 (ws.map rowU), .rows true 2 (ms.map rowMove), .rows true 2 (more.map rowMove), rtH, powH] fun v _ _ => v = bl true := by
  refine does Tryz.func5 rfl (by decide) ?_
  change Does Tryz.prog 6 _ _ _
  refine Does.alone 6 (gone ?_)
  change Does Tryz.prog 7 _ _ _
  refine Does.on 6 [5] _ _ (written ?_)
  refine brc_intro (fun _ => rfl) (fun h => ?_)
  have hms : ms.length + more.length ≤ 400 := by
    have h : ¬ IntKind.i64.wrap ((ms.length : Int) + (more.length : Int)) > 400 := of_decide_eq_false h
    rw [wrap_i64 _ (by omega) (by omega)] at h
    omega
  change Does Tryz.prog 8 _ _ _
  refine Does.on 6 [0, 1] _ _ (fitsAll (ps := ps) (ws := ws) rfl rfl hl hwl ?_)
  refine brc_intro (fun _ => rfl) (fun hf => ?_)
  have hf : fitsP ps ws.length = true := by simpa using hf
  obtain ⟨z, hz⟩ : ∃ z, movesZ (mz0 ps ws) ms = z := ⟨_, rfl⟩
  obtain ⟨hr16, hp16, hn100⟩ := fits_facts hf
  change Does Tryz.prog 9 _ _ _
  refine Does.on 6 [0, 1, 2] _ _ (behind (ps := ps) (ws := ws) (ms := ms) rfl rfl rfl hf (by omega) hws hz fun v hv hw => ?_)
  have w0 : WF (mz0 ps ws) := mz0_wf (by omega) (by omega) hr16 hws
  have hzl : z.ts.length = ps.length := (hz ▸ acts_moves ms (acts_mz0 ps ws) w0 : ActInv ws ps.length z).len
  clear w0
  refine SS.nil 10 1 (by decide) rfl ?_
  refine SS.loop (fun p : Nat × Bool => p.1 ≤ ps.length) (fun p => [(3, cv (.slc 3 0 more.length none false)), (9, cv (.ptr 15 0)), (10, cv (.slc 16 0 (endL z p.1).length none false)), (43, i64 ps.length), (44, i64 p.1)])
    (fun p => [.rows2 true 5 (ps.map fun p => p.map rowIns), .rows true 1 (ws.map rowU), .rows true 2 (ms.map rowMove), .rows true 2 (more.map rowMove), rtH, powH] ++ machS 6 z v ++ [.one [.ptr 6 0], .rows false 1 ((endL z p.1).map rowZ)]) (fun p => ps.length - p.1) [16]
    (At.mk' [3, 9, 10, 43, 44] (0, false) (by simp) ⟨rfl, rfl⟩ rfl rfl (by simp) (by simp) (by simp)) ?_
  rintro ⟨i, b⟩ hi
  change i ≤ ps.length at hi
  have hel := endL_len z i
  refine S_r ?_
  refine brc_intro (fun hlt => ?_) (fun hlt => ?_)
  · have hlt : i < ps.length := by
      have := of_decide_eq_true hlt
      have : (i : Int) < (ps.length : Int) := this
      omega
    have hup : IntKind.i64.wrap ((i : Int) + 1) = ((i + 1 : Nat) : Int) := wrap_i64 (i + 1) (by omega) (by omega)
    have hr : 0 ≤ (i : Int) ∧ (i : Int) < z.ts.length := by omega
    have hnx := endL_succ z i
    refine SS.inlR ?_
    change Does Tryz.prog 11 _ _ _
    refine Does.on 17 [6, 7, 8, 9, 10, 11, 12, 13, 14] _ _ (coreAt (m := z) (v := v) hw (i : Int) (fun h => absurd hr h) (fun _ hd => ?_) fun _ hd => ?_)
    · rw [Int.toNat_natCast] at hd
      rw [if_pos hd] at hnx
      refine And.intro (by simp) (Or.inl (And.intro rfl (And.intro (by simp) (And.intro ?_ (And.intro ?_ ?_)))))
      · show ((endL z i).length + 1) * 8 ≤ _
        omega
      · show (endL z i).length + 1 ≤ _
        omega
      refine At.mk' [3, 9, 10, 43, 44] (i + 1, b) ⟨hlt, by show ps.length - (i + 1) < ps.length - i; omega⟩ ⟨?_, rfl⟩ ?_ rfl (by simp) (by simp) (by simp)
      · rw [hup, hnx, List.length_append]
        rfl
      · rw [hnx, List.map_append]
        rfl
    · rw [Int.toNat_natCast] at hd
      rw [if_neg (by rw [hd]; decide)] at hnx
      refine At.mk' [3, 9, 10, 43, 44] (i + 1, b) ⟨hlt, by show ps.length - (i + 1) < ps.length - i; omega⟩ ⟨?_, rfl⟩ ?_ rfl (by simp) (by simp) (by simp)
      · rw [hup, hnx]
        first | done | rfl
      · rw [hnx]
        first | done | rfl
  have hlt : ¬ (i : Int) < (ps.length : Int) := of_decide_eq_false hlt
  obtain rfl : i = ps.length := by omega
  obtain ⟨el, hed⟩ : ∃ el, endL z ps.length = el := ⟨_, rfl⟩
  have hmem : ∀ t ∈ el, ∃ s : Nat, t = s ∧ s < z.ts.length ∧ (thZ z s).dn = true := fun t ht => by
    obtain ⟨s, h1, h2, h3⟩ := endL_mem (hed.symm ▸ ht)
    exact ⟨s, h1, by omega, h3⟩
  rw [hed] at hel ⊢
  obtain ⟨ne, hne⟩ : ∃ ne, el.length = ne := ⟨_, rfl⟩
  rw [hne] at hel ⊢
  refine SS.loop (fun p : Nat × VZ => p.1 ≤ more.length ∧ okV p.2) (fun p => [(9, cv (.ptr 15 0)), (10, cv (.slc 16 0 ne none false)), (61, cv (.slc 3 0 more.length none false)), (62, i64 more.length), (63, i64 p.1)])
    (fun p => [.rows2 true 5 (ps.map fun p => p.map rowIns), .rows true 1 (ws.map rowU), .rows true 2 (ms.map rowMove), .rows true 2 (more.map rowMove), rtH, powH] ++ machS 6 (movesZ z (more.take p.1)) p.2 ++ [.one [.ptr 6 0], .rows false 1 (el.map rowZ)]) (fun p => more.length - p.1) [12, 13, 14, 16]
    (At.mk' [9, 10, 61, 62, 63] (0, v) ⟨by simp, hv⟩ ⟨rfl, rfl⟩ rfl rfl (by simp) (by simp) (by decide)) ?_
  rintro ⟨j, v1⟩ ⟨hjk, hv1⟩
  change j ≤ more.length at hjk
  change okV v1 at hv1
  have hw1 := hw.moves (more.take j)
  refine S_r ?_
  refine brc_intro (fun hlt => ?_) (fun hlt => ?_)
  · have hlt : j < more.length := by
      have := of_decide_eq_true hlt
      have : (j : Int) < (more.length : Int) := this
      omega
    obtain ⟨x, hx⟩ : ∃ x, more[j]? = some x := ⟨_, List.getElem?_eq_getElem (by omega)⟩
    have hup : IntKind.i64.wrap ((j : Int) + 1) = ((j + 1 : Nat) : Int) := wrap_i64 (j + 1) (by omega) (by omega)
    have hnx := movesZ_take z more j x hx
    refine SS.inlR ?_
    refine at2 (a := (0 : Int) ≤ (j : Int)) (b := (j : Int) < (more.length : Int)) (by omega) (by omega) (rdA (rowMove x) (by simp [hx]) ?_)
    refine brc_intro (fun hp => ?_) (fun hp => ?_)
    · have hp : x.pk = true := hp
      rw [moveZ, if_pos hp] at hnx
      change Does Tryz.prog 13 _ _ _
      refine Does.on 18 [6, 7, 8, 9, 10, 11, 12, 13, 14] _ _ (corePoke (m := movesZ z (more.take j)) (v := v1) hw1 hv1 x.th (fun v' hv' => ?_) fun e v' hv' => ?_)
      all_goals
        rw [show pokeZ (movesZ z (more.take j)) x.th = movesZ z (more.take (j + 1)) from hnx.symm]
        refine At.mk' [9, 10, 61, 62, 63] (j + 1, v') ⟨⟨hlt, hv'⟩, by show more.length - (j + 1) < more.length - j; omega⟩ ⟨?_, rfl⟩ rfl rfl (by simp) (by simp) (by decide)
        rw [hup]
        first | done | rfl
    · have hp : x.pk = false := hp
      rw [moveZ, if_neg (by rw [hp]; decide)] at hnx
      have h6 : x.th ∈ el → stepZ (movesZ z (more.take j)) x.th = (6, movesZ z (more.take j)) := fun hm => by
        obtain ⟨s, h1, h2, h3⟩ := hmem _ hm
        obtain ⟨g1, g2⟩ := ended_moves (more.take j) hw h2 h3
        rw [h1]
        exact ended_step g1 g2
      change Does Tryz.prog 14 _ _ _
      refine Does.on 18 [6, 7, 8, 9, 10, 11, 12, 13, 14] _ _ (coreStep (m := movesZ z (more.take j)) (v := v1) hw1 hv1 x.th (fun e0 v' hv' => ?_) fun e0 v' hv' => ?_)
      · rw [show (stepZ (movesZ z (more.take j)) x.th).2 = movesZ z (more.take (j + 1)) from hnx.symm]
        change Does Tryz.prog 21 _ _ _
        refine Does.on 18 [16] _ _ (containsZ (xs := el) x.th hne (by omega) (fun hm => ?_) fun _ => ?_)
        · rw [h6 hm] at e0
          cases e0
        · refine At.mk' [9, 10, 61, 62, 63] (j + 1, v') ⟨⟨hlt, hv'⟩, by show more.length - (j + 1) < more.length - j; omega⟩ ⟨?_, rfl⟩ rfl rfl (by simp) (by simp) (by decide)
          rw [hup]
          first | done | rfl
      · rw [show (stepZ (movesZ z (more.take j)) x.th).2 = movesZ z (more.take (j + 1)) from hnx.symm]
        change Does Tryz.prog 21 _ _ _
        refine Does.on 18 [16] _ _ (containsZ (xs := el) x.th hne (by omega) (fun hm => ?_) fun _ => ?_)
        · rw [show (stepZ (movesZ z (more.take j)) x.th).1 = 6 by rw [h6 hm]]
          change Does Tryz.prog 12 _ _ _
          refine Does.on 18 [4] _ _ (tellErrno 6 ?_)
          refine At.mk' [9, 10, 61, 62, 63] (j + 1, v') ⟨⟨hlt, hv'⟩, by show more.length - (j + 1) < more.length - j; omega⟩ ⟨?_, rfl⟩ rfl rfl (by simp) (by simp) (by decide)
          rw [hup]
          first | done | rfl
        · refine At.mk' [9, 10, 61, 62, 63] (j + 1, v') ⟨⟨hlt, hv'⟩, by show more.length - (j + 1) < more.length - j; omega⟩ ⟨?_, rfl⟩ rfl rfl (by simp) (by simp) (by decide)
          rw [hup]
          first | done | rfl
  have hlt : ¬ (j : Int) < (more.length : Int) := of_decide_eq_false hlt
  obtain rfl : j = more.length := by omega
  have hcan : ∀ t ∈ el, canZ (movesZ z (more.take more.length)) t = false := fun t ht => by
    obtain ⟨s, rfl, h2, h3⟩ := hmem t ht
    obtain ⟨g1, g2⟩ := ended_moves (more.take more.length) hw h2 h3
    rw [canZ, Int.toNat_natCast, g2]
    simp
  change Does Tryz.prog 22 _ _ _
  refine Does.on 17 [16, 15, 6, 7, 8, 9, 10, 11, 12, 13, 14] _ _ (endsAny (el := el) hw1 hne (by omega) hcan ?_)
  exact rfl

end

end Go.Mac
