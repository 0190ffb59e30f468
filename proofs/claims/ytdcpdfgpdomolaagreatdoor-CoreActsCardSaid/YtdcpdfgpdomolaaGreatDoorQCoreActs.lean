/- What was done tells all. -/
import Derived.Test.YtdcpdfgpdomolaaGreatDoorQWritten
import Derived.Test.YtdcpdfgpdomolaaGreatDoorQBehind
import Derived.Test.YtdcpdfgpdomolaaGreatDoorQGone
import Derived.Test.YtdcpdfgpdomolaaGreatDoorQCount
import Derived.Test.YtdcpdfgpdomolaaGreatDoorGBase
import Derived.Test.YtdcpdfgpdomolaaGreatDoorQActs
import Derived.Test.YtdcpdfgpdomolaaGreatDoorQSub
open Go Go.Proofs Go.Mac
set_option maxRecDepth 100000
namespace Go.Mac

section
variable {K : AV → List Nat → List PO → Prop}

theorem cloneU {xs : List Int} {n : Nat} {ro : Bool} (hn : xs.length = n) (hb : n ≤ 1000) (h0 : n = 0 → K (cv .nilslc) [] [.rows ro 1 (xs.map rowU)]) (h : K (cv (.slc 1 0 n none true)) [] [.rows ro 1 (xs.map rowU), .rows false 1 (xs.map rowU)]) :
    Does Tryz.prog 16 [cv (.slc 0 0 n none false)] [.rows ro 1 (xs.map rowU)] K := by
  refine Does.nil0 (fun h => ?_) ?_
  · refine does Tryz.func16 rfl (by decide) ?_
    exact h0 h
  refine does Tryz.func16 rfl (by decide) ?_
  have e : List.take n (List.drop 0 (xs.map rowU)) = xs.map rowU := by rw [List.drop_zero, List.take_of_length_le]; simp; omega
  refine And.intro (by simp; omega) (Or.inl (And.intro rfl (And.intro (by simp) (And.intro ?_ (And.intro ?_ ?_)))))
  · rw [e, List.length_map, hn]
    show (0 + n) * 8 ≤ _
    omega
  · rw [e, List.length_map, hn]
    omega
  · rw [e]
    show K (cv (.slc 1 0 (0 + (xs.map rowU).length) none true)) [] [.rows ro 1 (xs.map rowU), .rows false 1 (xs.map rowU)]
    rw [Nat.zero_add, List.length_map, hn]
    exact h

theorem equalU0 {ro nn : Bool} {c : Option Nat} (h1 : K (bl true) [] [.rows ro 1 []]) : Does Tryz.prog 19 [cv .nilslc, cv (.slc 0 0 0 c nn)] [.rows ro 1 []] K := by
  refine does Tryz.func19 rfl (by decide) ?_
  refine SS.loop (fun i : Nat => i = 0) (fun i => [(0, cv .nilslc), (1, cv (.slc 0 0 0 c nn)), (12, i64 0), (13, i64 i)]) (fun _ => [.rows ro 1 []]) (fun _ => 0) []
    (At.mk' [0, 1, 12, 13] 0 rfl ⟨rfl, rfl⟩ rfl rfl (by simp) (by simp) (by simp)) ?_
  rintro i rfl
  refine S_r ?_
  exact h1

end

theorem gActR {al : List ActZ} {p : Nat} {a : ActZ} (h : al[p]? = some a) : (al.map rowAct)[0 + Int.toNat (p : Int)]? = some (rowAct a) := by simp [h]
theorem gUR {w : List Int} {c : Int} (h : 0 ≤ c ∧ c < w.length) : (w.map rowU)[0 + Int.toNat c]? = some (rowU (rgZ w c)) := by
  rw [Nat.zero_add, List.getElem?_map, List.getElem?_eq_getElem (show c.toNat < w.length by omega), rgZ, List.getD_eq_getElem?_getD, List.getElem?_eq_getElem (show c.toNat < w.length by omega)]
  rfl

theorem mapU_set (w : List Int) (c y : Int) : (w.map rowU).set (0 + c.toNat) (rowU y) = (rgS w c y).map rowU := by
  rw [Nat.zero_add, rgS, List.map_set]

set_option maxHeartbeats 4000000 in
theorem coreActsLaw (ps : List (List InsZ)) (hl : ps.length ≤ 9223372036854775807) (ws : List Int) (hws : ∀ x ∈ ws, 0 ≤ x ∧ x < 18446744073709551616) (hwl : ws.length ≤ 9223372036854775807) (ms : List MoveZ) :
    Does Tryz.prog 4 [cv (.slc 0 0 ps.length none false), cv (.slc 1 0 ws.length none false), cv (.slc 2 0 ms.length none false)] [.rows2 true 5 (ps.map fun p => p.map rowIns), .rows true 1 (ws.map rowU), .rows true 2 (ms.map rowMove), rtH, powH] fun v _ _ => v = bl true := by
  refine does Tryz.func4 rfl (by decide) ?_
  change Does Tryz.prog 6 _ _ _
  refine Does.alone 5 (gone ?_)
  change Does Tryz.prog 7 _ _ _
  refine Does.on 5 [4] _ _ (written ?_)
  refine brc_intro (fun _ => rfl) (fun h => ?_)
  have hms : ms.length ≤ 300 := by
    have := of_decide_eq_false h
    omega
  change Does Tryz.prog 8 _ _ _
  refine Does.on 5 [0, 1] _ _ (fitsAll (ps := ps) (ws := ws) rfl rfl hl hwl ?_)
  refine brc_intro (fun _ => rfl) (fun hf => ?_)
  have hf : fitsP ps ws.length = true := by simpa using hf
  obtain ⟨z, hz⟩ : ∃ z, movesZ (mz0 ps ws) ms = z := ⟨_, rfl⟩
  obtain ⟨hr16, hp16, hn100⟩ := fits_facts hf
  have w0 : WF (mz0 ps ws) := mz0_wf (by omega) (by omega) hr16 hws
  have I : ActInv ws ps.length z := hz ▸ acts_moves ms (acts_mz0 ps ws) w0
  change Does Tryz.prog 9 _ _ _
  refine Does.on 5 [0, 1, 2] _ _ (behind (ps := ps) (ws := ws) (ms := ms) rfl rfl rfl hf (by omega) hws hz fun v hv hw => ?_)
  have hal := hw.al
  have hk := hw.k
  have hlz : z.ws.length = ws.length := by rw [← I.cells, wsAt_len]
  change Does Tryz.prog 16 _ _ _
  refine Does.on 14 [1] _ _ (cloneU (xs := ws) rfl (by omega) (fun h0 => ?_) ?_)
  · have hal0 : z.al = [] := by
      refine List.eq_nil_iff_length_eq_zero.2 (Nat.eq_zero_of_not_pos fun hp => ?_)
      obtain ⟨a, ha⟩ : ∃ a, z.al[0]? = some a := ⟨_, List.getElem?_eq_getElem hp⟩
      have := (I.each 0 a ha).1
      omega
    change Does Tryz.prog 17 _ _ _
    refine Does.on 14 [5, 6, 7, 8, 9, 10, 11, 12, 13] _ _ (coreActs (m := z) (v := v) (by omega) ?_)
    have hws0 : z.ws = [] := List.length_eq_zero_iff.1 (by omega)
    refine SS.loop (fun i : Nat => i = 0) (fun i => [(0, cv (.slc 0 0 ps.length none false)), (7, cv (.ptr 5 0)), (8, cv .nilslc), (9, i64 0), (36, cv (.slc 14 0 z.al.length none false)), (37, i64 z.al.length), (38, i64 i)])
      (fun i => [.rows2 true 5 (ps.map fun p => p.map rowIns), .rows true 1 (ws.map rowU), .rows true 2 (ms.map rowMove), rtH, powH] ++ machS 5 z v ++ [.rows false 6 (z.al.map rowAct)]) (fun _ => 0) []
      (At.mk' [0, 7, 8, 9, 36, 37, 38] 0 rfl ⟨rfl, rfl⟩ rfl rfl (by simp) (by simp) (by simp)) ?_
    rintro i rfl
    refine S_r ?_
    refine brc_intro (fun hlt => ?_) (fun _ => ?_)
    · have : ((0 : Nat) : Int) < (z.al.length : Int) := of_decide_eq_true hlt
      rw [hal0] at this
      simp at this
    change Does Tryz.prog 20 _ _ _
    refine Does.on 15 [5, 6, 7, 8, 9, 10, 11, 12, 13] _ _ (coreCellsL (m := z) (v := v) hw hws0 ?_)
    change Does Tryz.prog 19 _ _ _
    refine Does.on 16 [15] _ _ (equalU0 ?_)
    exact rfl
  · change Does Tryz.prog 17 _ _ _
    refine Does.on 15 [5, 6, 7, 8, 9, 10, 11, 12, 13] _ _ (coreActs (m := z) (v := v) (by omega) ?_)
    refine SS.loop (fun i : Nat => i ≤ z.al.length) (fun i => [(0, cv (.slc 0 0 ps.length none false)), (7, cv (.ptr 5 0)), (8, cv (.slc 14 0 ws.length none true)), (9, i64 (whenL (z.al.take i))), (36, cv (.slc 15 0 z.al.length none false)), (37, i64 z.al.length), (38, i64 i)])
      (fun i => [.rows2 true 5 (ps.map fun p => p.map rowIns), .rows true 1 (ws.map rowU), .rows true 2 (ms.map rowMove), rtH, powH] ++ machS 5 z v ++ [.rows false 1 ((wsAt ws (z.al.take i)).map rowU), .rows false 6 (z.al.map rowAct)]) (fun i => z.al.length - i) []
      (At.mk' [0, 7, 8, 9, 36, 37, 38] 0 (by simp) ⟨rfl, rfl⟩ rfl rfl (by simp) (by simp) (by simp)) ?_
    intro i hi
    change i ≤ z.al.length at hi
    refine S_r ?_
    refine brc_intro (fun hlt => ?_) (fun hlt => ?_)
    · have hlt : i < z.al.length := by
        have := of_decide_eq_true hlt
        have : (i : Int) < (z.al.length : Int) := this
        omega
      obtain ⟨a, ha⟩ : ∃ a, z.al[i]? = some a := ⟨_, List.getElem?_eq_getElem hlt⟩
      obtain ⟨hc, hx, hw1, hw2, ht1, ht2, ho⟩ := I.each i a ha
      have hwl2 : (wsAt ws (z.al.take i)).length = ws.length := wsAt_len _ _
      refine SS.inlR ?_
      refine at2 (a := (0 : Int) ≤ (i : Int)) (b := (i : Int) < (z.al.length : Int)) (by omega) (by omega) (rdA (rowAct a) (gActR ha) ?_)
      refine SS.drawR follows (by decide) ?_
      refine brc_intro (fun h => ?_) (fun _ => ?_)
      · have := of_decide_eq_true h
        omega
      refine brc_intro (fun h => ?_) (fun _ => ?_)
      · have : a.c ≥ (ws.length : Int) := of_decide_eq_true h
        omega
      refine at2 (a := (0 : Int) ≤ a.c) (b := a.c < (ws.length : Int)) (by omega) (by omega) (rd1 (rowU (rgZ (wsAt ws (z.al.take i)) a.c)) (.int .u64 (rgZ (wsAt ws (z.al.take i)) a.c)) (gUR (by rw [hwl2]; exact hc)) rfl ?_)
      refine brc_intro (fun h => ?_) (fun _ => ?_)
      · have h : (a.x != rgZ (wsAt ws (z.al.take i)) a.c) = true := h
        simp [hx] at h
      refine brc_intro (fun h => ?_) (fun _ => ?_)
      · have := of_decide_eq_true h
        omega
      change Does Tryz.prog 18 _ _ _
      refine Does.on 17 [5, 6, 7, 8, 9, 10, 11, 12, 13] _ _ (coreSteps (m := z) (v := v) ?_)
      repeat' (first | refine And.intro rfl ?_ | fail)
      refine brc_intro (fun h => ?_) (fun _ => ?_)
      · have := of_decide_eq_true h
        omega
      refine brc_intro (fun h => ?_) (fun _ => ?_)
      · have := of_decide_eq_true h
        omega
      refine brc_intro (fun h => ?_) (fun _ => ?_)
      · have : a.t ≥ (ps.length : Int) := of_decide_eq_true h
        omega
      have wr : IntKind.i64.wrap ((i : Int) + 1) = ((i + 1 : Nat) : Int) := wrap_i64 _ (by omega) (by omega)
      have htk := take_one ha
      have hwS : wsAt ws (z.al.take (i + 1)) = rgS (wsAt ws (z.al.take i)) a.c a.y := by rw [htk, wsAt_snoc]
      have hwW : whenL (z.al.take (i + 1)) = a.w := by rw [htk, whenL_snoc]
      have hgR := gUR (w := wsAt ws (z.al.take i)) (c := a.c) (by rw [hwl2]; exact hc)
      refine brc_intro (fun h6 => ?_) (fun h6 => ?_)
      · refine brc_intro (fun h => ?_) (fun _ => ?_)
        · have h6 : a.o = 6 := by simpa using h6
          have := ho h6
          simp [this] at h
        refine SS.drawR follows (by decide) ?_
        refine at2 (a := (0 : Int) ≤ a.c) (b := a.c < (ws.length : Int)) (by omega) (by omega) (wr1 (rowU (rgZ (wsAt ws (z.al.take i)) a.c)) hgR ?_)
        repeat' (first | refine And.intro rfl ?_ | refine And.intro (And.intro (by omega) (And.intro (by omega) rfl)) ?_ | fail)
        refine At.mk' [0, 7, 8, 9, 36, 37, 38] (i + 1) ⟨hlt, by omega⟩ ⟨?_, rfl⟩ ?_ rfl (by simp) (by simp) (by simp)
        · rw [wr, hwW]
        · rw [hwS, ← mapU_set]
          rfl
      · refine SS.drawR follows (by decide) ?_
        refine at2 (a := (0 : Int) ≤ a.c) (b := a.c < (ws.length : Int)) (by omega) (by omega) (wr1 (rowU (rgZ (wsAt ws (z.al.take i)) a.c)) hgR ?_)
        repeat' (first | refine And.intro rfl ?_ | refine And.intro (And.intro (by omega) (And.intro (by omega) rfl)) ?_ | fail)
        refine At.mk' [0, 7, 8, 9, 36, 37, 38] (i + 1) ⟨hlt, by omega⟩ ⟨?_, rfl⟩ ?_ rfl (by simp) (by simp) (by simp)
        · rw [wr, hwW]
        · rw [hwS, ← mapU_set]
          rfl
    · have hlt : ¬ (i : Int) < (z.al.length : Int) := of_decide_eq_false hlt
      obtain rfl : i = z.al.length := by omega
      rw [List.take_length, I.cells, ← hlz]
      change Does Tryz.prog 20 _ _ _
      refine Does.on 16 [5, 6, 7, 8, 9, 10, 11, 12, 13] _ _ (coreCellsL (m := z) (v := v) hw rfl ?_)
      change Does Tryz.prog 19 _ _ _
      refine Does.on 17 [14, 16] _ _ (equalU (xs := z.ws) (ys := z.ws) (by omega) (fun _ => ?_) fun h => absurd rfl h)
      exact rfl

end Go.Mac
