/- Who awaits sleeps till it is told. -/
import Derived.Test.YtljglfophhagjaaDoorQGone
import Derived.Test.YtljglfophhagjaaDoorQMachRun
import Derived.Test.YtljglfophhagjaaDoorQPart
import Derived.Test.YtljglfophhagjaaDoorQAwaitZ
import Derived.Test.YtljglfophhagjaaDoorQCut
open Go Go.Proofs Go.Mac
set_option maxRecDepth 100000
namespace Go.Mac

/-- The machine behind so many picks. -/
def awM (l : List Int) : MZ := l.foldl (fun m t => (stepZ m (pickZ t 2)).2) (mz0 [awA, awB] [0])

structure AwI (m : MZ) (i : Nat) : Prop where
  wf : WF m
  ps : m.ps = [awA, awB]
  nc : m.nc = 1
  st : awS.contains (enc m) = true
  k : m.k ≤ i

theorem AwI.step {m : MZ} {i : Nat} (h : AwI m i) (hi : i < 1000) {t : Int} (ht : t = 0 ∨ t = 1) : AwI (stepZ m t).2 (i + 1) := by
  have hk := h.k
  refine ⟨h.wf.step t, (step_ps m t).1.trans h.ps, (step_ps m t).2.trans h.nc, ?_, by have := stepZ_k m t; omega⟩
  rw [enc_step m t (by omega), h.ps, h.nc]
  have := List.all_eq_true.1 aw_closed (enc m) (List.contains_iff_mem.1 h.st)
  rw [Bool.and_eq_true] at this
  rcases ht with rfl | rfl
  · exact this.1
  · exact this.2

theorem AwI.begin : AwI (mz0 [awA, awB] [0]) 0 :=
  ⟨mz0_wf (by decide) (by decide) (by decide) (by decide), rfl, rfl, aw_begin, Nat.le_refl _⟩

theorem pick2 (x : Int) : pickZ x 2 = 0 ∨ pickZ x 2 = 1 := by
  have := pickZ_lt x (n := 2) (by decide)
  omega

theorem AwI.run : ∀ (l : List Int) (m : MZ) (i : Nat), AwI m i → i + l.length < 1000 → AwI (l.foldl (fun m t => (stepZ m (pickZ t 2)).2) m) (i + l.length)
  | [], _, _, h, _ => h
  | x :: l, m, i, h, hi => by
    have h2 := (h.step (by simp at hi; omega) (pick2 x)).run l _ _ (by simp at hi; omega)
    rw [List.foldl_cons, List.length_cons, show i + (l.length + 1) = i + 1 + l.length by omega]
    exact h2

theorem AwI.good {m : MZ} {i : Nat} (h : AwI m i) : (m.el = [] ∨ m.ws = [1]) ∧ ∃ w, m.ws = [w] := by
  have := List.all_eq_true.1 aw_good (enc m) (List.contains_iff_mem.1 h.st)
  simp only [Bool.and_eq_true, Bool.or_eq_true, beq_iff_eq, List.isEmpty_iff, enc, List.map_eq_nil_iff] at this
  exact ⟨this.1, List.length_eq_one_iff.1 this.2⟩

/-- So many rounds more of both. -/
def awT (m : MZ) : Nat → MZ
  | 0 => m
  | n + 1 => (stepZ (stepZ (awT m n) 1).2 0).2

theorem awE_succ : ∀ (n : Nat) (c : Cfg), awE (n + 1) c = awN (awN (awE n c) 1) 0
  | 0, _ => rfl
  | n + 1, c => awE_succ n (awN (awN c 1) 0)

theorem AwI.rounds {m : MZ} {i : Nat} (h : AwI m i) (hi : i ≤ 100) : ∀ n, n ≤ 100 → AwI (awT m n) (i + 2 * n) ∧ enc (awT m n) = awE n (enc m)
  | 0, _ => ⟨h, rfl⟩
  | n + 1, hn => by
    obtain ⟨h1, h2⟩ := AwI.rounds h hi n (by omega)
    have h3 := h1.step (by omega) (.inr rfl)
    have h4 := h3.step (by omega) (.inl rfl)
    refine ⟨h4, ?_⟩
    rw [awE_succ, ← h2]
    have hk1 := h1.k
    have hk3 := h3.k
    show enc (stepZ (stepZ (awT m n) 1).2 0).2 = _
    rw [enc_step _ _ (by omega), enc_step _ _ (by omega), h3.ps, h3.nc, h1.ps, h1.nc]
    rfl

theorem AwI.ends {m : MZ} {i : Nat} (h : AwI m i) (hi : i ≤ 100) : allZ (awT m 30) = true ∧ (awT m 30).el.length = 2 := by
  have h1 := (AwI.rounds h hi 30 (by omega)).2
  have := List.all_eq_true.1 aw_ends (enc m) (List.contains_iff_mem.1 h.st)
  rw [← h1] at this
  simp only [Bool.and_eq_true, beq_iff_eq, enc, List.length_map, List.all_map] at this
  refine ⟨?_, this.2⟩
  rw [allZ, ← this.1]
  rfl

set_option maxHeartbeats 8000000 in
theorem partAwaits (l : List Int) (_hl : ∀ x ∈ l, -9223372036854775808 ≤ x ∧ x ≤ 9223372036854775807) :
    Does Tryd.prog 8 [cv (.slc 0 0 l.length none false)] [.rows true 1 (l.map rowZ), rtH] fun v _ _ => v = bl true := by
  refine doesS Tryd.func8 rfl (by decide) ?_
  refine SS.stepR ?_
  refine SS.stepR ?_
  change Does Tryd.prog 27 _ _ _
  refine Does.alone 2 (pieced ?_)
  change Does Tryd.prog 24 _ _ _
  refine Does.alone 2 (gone ?_)
  refine SS.stepR ?_
  refine brc_intro (fun _ => fin rfl) (fun h => ?_)
  have hl : l.length ≤ 60 := by have := of_decide_eq_false h; omega
  refine SS.stepR ?_
  refine SS.stepR ?_
  refine SS.cutK (fun _ : Unit => True) (fun _ => [(0, cv (.slc 0 0 l.length none false)), (3, cv (.ptr 2 0)), (4, cv (.ptr 3 0)), (5, cv (.slc 4 0 8 none true))])
    (fun _ => [.rows true 1 (l.map rowZ), rtH, .one [.f (.int .i64 16), .f (.int .i64 3), .f (.int .i64 0), .f (.int .i64 0), .f (.int .i64 0)], .one [.f (.int .i64 1), .f (.int .i64 0), .f (.int .i64 1), .f (.int .i64 0), .f (.int .i64 0)], .rows false 5 (awA.map rowIns)]) [] ?_ ?_
  · refine SS.drawR follows (by decide) ?_
    repeat' (first | refine And.intro rfl ?_ | (change Does Tryd.prog 28 _ _ _; first | refine Does.alone 4 (await 1 0 (by decide) ?_) | refine Does.alone 5 (await 1 0 (by decide) ?_) | refine Does.alone 6 (await 1 0 (by decide) ?_)) | refine And.intro (by decide) (Or.inl (And.intro rfl (And.intro (by rfl) (And.intro (by decide) (And.intro (by decide) ?_))))) | refine And.intro ?_ ?_ | fail)
    all_goals first | exact ⟨(), 7, [0, 1, 2, 3, 4], trivial, rfl, rfl, by decide, by decide, rfl, rfl, rfl, rfl, List.forall_mem_cons.2 ⟨rfl, List.forall_mem_cons.2 ⟨rfl, List.forall_mem_cons.2 ⟨rfl, List.forall_mem_cons.2 ⟨rfl, fun _ h => by simp at h⟩⟩⟩⟩, by decide, by decide⟩ | exact ⟨(), 7, [0, 1, 2, 3, 5], trivial, rfl, rfl, by decide, by decide, rfl, rfl, rfl, rfl, List.forall_mem_cons.2 ⟨rfl, List.forall_mem_cons.2 ⟨rfl, List.forall_mem_cons.2 ⟨rfl, List.forall_mem_cons.2 ⟨rfl, fun _ h => by simp at h⟩⟩⟩⟩, by decide, by decide⟩ | exact ⟨(), 7, [0, 1, 2, 3, 6], trivial, rfl, rfl, by decide, by decide, rfl, rfl, rfl, rfl, List.forall_mem_cons.2 ⟨rfl, List.forall_mem_cons.2 ⟨rfl, List.forall_mem_cons.2 ⟨rfl, List.forall_mem_cons.2 ⟨rfl, fun _ h => by simp at h⟩⟩⟩⟩, by decide, by decide⟩
  rintro _ _
  refine SS.cutK (fun _ : Unit => True) (fun _ => [(0, cv (.slc 0 0 l.length none false)), (5, cv (.slc 2 0 8 none true)), (6, cv (.slc 3 0 5 none true))])
    (fun _ => [.rows true 1 (l.map rowZ), rtH, .rows false 5 (awA.map rowIns), .rows false 5 (awB.map rowIns)]) [] ?_ ?_
  · refine SS.drawR follows (by decide) ?_
    repeat' (first | refine And.intro rfl ?_ | (change Does Tryd.prog 29 _ _ _; first | refine Does.alone 5 (tell 0 1 ?_) | refine Does.alone 6 (tell 0 1 ?_) | refine Does.alone 7 (tell 0 1 ?_)) | refine And.intro (by decide) (Or.inl (And.intro rfl (And.intro (by rfl) (And.intro (by decide) (And.intro (by decide) ?_))))) | refine And.intro ?_ ?_ | fail)
    all_goals first | exact ⟨(), 8, [0, 1, 4, 5], trivial, rfl, rfl, by decide, by decide, rfl, rfl, rfl, rfl, List.forall_mem_cons.2 ⟨rfl, List.forall_mem_cons.2 ⟨rfl, List.forall_mem_cons.2 ⟨rfl, fun _ h => by simp at h⟩⟩⟩, by decide, by decide⟩ | exact ⟨(), 8, [0, 1, 4, 6], trivial, rfl, rfl, by decide, by decide, rfl, rfl, rfl, rfl, List.forall_mem_cons.2 ⟨rfl, List.forall_mem_cons.2 ⟨rfl, List.forall_mem_cons.2 ⟨rfl, fun _ h => by simp at h⟩⟩⟩, by decide, by decide⟩ | exact ⟨(), 8, [0, 1, 4, 7], trivial, rfl, rfl, by decide, by decide, rfl, rfl, rfl, rfl, List.forall_mem_cons.2 ⟨rfl, List.forall_mem_cons.2 ⟨rfl, List.forall_mem_cons.2 ⟨rfl, fun _ h => by simp at h⟩⟩⟩, by decide, by decide⟩
  rintro _ _
  refine S_r ?_
  refine And.intro rfl (And.intro rfl ?_)
  change Does Tryd.prog 30 _ _ _
  refine Does.on 6 [4, 5] _ _ (coreNew (ps := [awA, awB]) (ws := [0]) (n := 2) (nc := 1) (ro := false) (ro2 := false) rfl rfl (by decide) (by decide) (by decide) fun v hv => ?_)
  refine SS.loop (fun p : Nat × VZ => p.1 ≤ l.length ∧ okV p.2) (fun p => [(7, cv (.ptr 6 0)), (59, cv (.slc 0 0 l.length none false)), (60, i64 l.length), (61, i64 p.1)])
    (fun p => [.rows true 1 (l.map rowZ), rtH, .gone, .gone, .rows2 false 5 [awA.map rowIns, awB.map rowIns], .rows false 1 [[.int .u64 0]]] ++ machS 6 (awM (l.take p.1)) p.2) (fun p => l.length - p.1) [2, 3, 12, 13, 14]
    (At.mk' [7, 59, 60, 61] (0, v) ⟨by simp, hv⟩ ⟨rfl, rfl⟩ rfl rfl (by simp) (by simp) (by decide)) ?_
  rintro ⟨i, v1⟩ ⟨hi, hv1⟩
  change i ≤ l.length at hi
  have hI : AwI (awM (l.take i)) i := by
    have := AwI.begin.run (l.take i) _ _ (by simp; omega)
    rw [List.length_take, Nat.min_eq_left hi, Nat.zero_add] at this
    exact this
  refine S_r ?_
  refine brc_intro (fun hlt => ?_) (fun hlt => ?_)
  · have hlt : i < l.length := by
      have := of_decide_eq_true hlt
      have : (i : Int) < (l.length : Int) := this
      omega
    obtain ⟨x, hx⟩ : ∃ x, l[i]? = some x := ⟨_, List.getElem?_eq_getElem hlt⟩
    have hM : awM (l.take (i + 1)) = (stepZ (awM (l.take i)) (pickZ x 2)).2 := by
      rw [awM, List.take_add_one, hx, List.foldl_append]
      rfl
    have hI2 : AwI (awM (l.take (i + 1))) (i + 1) := by rw [hM]; exact hI.step (by omega) (pick2 x)
    refine SS.inlR ?_
    refine at2 (a := (0 : Int) ≤ (i : Int)) (b := (i : Int) < (l.length : Int)) (by omega) (by omega) (rd1 (rowZ x) (.int .i64 x) (by simp [hx]) rfl ?_)
    change Does Tryd.prog 13 _ _ _
    refine Does.alone 15 (pick x 2 (by decide) ?_)
    change Does Tryd.prog 31 _ _ _
    refine Does.on 15 [6, 7, 8, 9, 10, 11, 12, 13, 14] _ _ (coreStep (m := awM (l.take i)) (v := v1) hI.wf hv1 (pickZ x 2) (fun _ v' hv' => ?_) fun _ v' hv' => ?_)
    all_goals
      rw [← hM]
      generalize hm : awM (l.take (i + 1)) = m1 at hI2 ⊢
      have hgood := hI2.good
      have hwf := hI2.wf
      have hnc := hI2.nc
      have hel : m1.el.length ≤ 1000 := by have := hwf.el; have := hI2.k; omega
      change Does Tryd.prog 32 _ _ _
      refine Does.on 15 [6, 7, 8, 9, 10, 11, 12, 13, 14] _ _ (coreEvents (m := m1) (v := v') (by omega) ?_)
      refine SS.loop (fun q : Nat × Int × Int => q.1 ≤ m1.el.length ∧ (m1.el = [] → q.2.1 = -1 ∧ q.2.2 = -1))
        (fun q => [(7, cv (.ptr 6 0)), (59, cv (.slc 0 0 l.length none false)), (60, i64 l.length), (61, i64 i), (70, cv (.slc 15 0 m1.el.length none false)), (71, i64 m1.el.length), (72, i64 q.1), (11, i64 q.2.1), (12, i64 q.2.2)])
        (fun _ => [.rows true 1 (l.map rowZ), rtH, .gone, .gone, .rows2 false 5 [awA.map rowIns, awB.map rowIns], .rows false 1 [[.int .u64 0]]] ++ machS 6 m1 v' ++ [.rows false 4 (m1.el.map rowEv)]) (fun q => m1.el.length - q.1) [2, 3, 12, 13, 14]
        (At.mk' [7, 59, 60, 61, 70, 71, 72, 11, 12] (0, -1, -1) ⟨by simp, by simp⟩ ⟨rfl, rfl⟩ rfl rfl (by simp) (by simp) (by decide)) ?_
      rintro ⟨j, ex, ey⟩ ⟨hj, hxy⟩
      change j ≤ m1.el.length at hj
      change m1.el = [] → ex = -1 ∧ ey = -1 at hxy
      refine S_r ?_
      refine brc_intro (fun hlt2 => ?_) (fun hlt2 => ?_)
      · have hlt2 : j < m1.el.length := by
          have := of_decide_eq_true hlt2
          have : (j : Int) < (m1.el.length : Int) := this
          omega
        obtain ⟨e, he⟩ : ∃ e, m1.el[j]? = some e := ⟨_, List.getElem?_eq_getElem hlt2⟩
        have hne : m1.el ≠ [] := fun h => by rw [h] at hlt2; simp at hlt2
        refine SS.inlR ?_
        refine at2 (a := (0 : Int) ≤ (j : Int)) (b := (j : Int) < (m1.el.length : Int)) (by omega) (by omega) (rdA (rowEv e) (gev he) ?_)
        refine brc_intro (fun _ => ?_) (fun _ => ?_)
        · refine At.mk' [7, 59, 60, 61, 70, 71, 72, 11, 12] (j + 1, (j : Int), ey) ⟨⟨by show j + 1 ≤ m1.el.length; omega, fun h => absurd h hne⟩, by show m1.el.length - (j + 1) < m1.el.length - j; omega⟩ ⟨?_, rfl⟩ rfl rfl (by simp) (by simp) (by decide)
          rw [wrap_i64 (j + 1) (by omega) (by omega)]
          rfl
        · refine At.mk' [7, 59, 60, 61, 70, 71, 72, 11, 12] (j + 1, ex, (j : Int)) ⟨⟨by show j + 1 ≤ m1.el.length; omega, fun h => absurd h hne⟩, by show m1.el.length - (j + 1) < m1.el.length - j; omega⟩ ⟨?_, rfl⟩ rfl rfl (by simp) (by simp) (by decide)
          rw [wrap_i64 (j + 1) (by omega) (by omega)]
          rfl
      · obtain ⟨w, hw⟩ := hgood.2
        change Does Tryd.prog 33 _ _ _
        refine Does.on 16 [6, 7, 8, 9, 10, 11, 12, 13, 14] _ _ (coreCells (m := m1) (v := v') hwf.nc (by omega) ?_)
        refine brc_intro (fun _ => ?_) (fun h => absurd (show ((m1.nc : Int) == 1) = false from h) (by rw [hnc]; decide))
        change Does Tryd.prog 33 _ _ _
        refine Does.on 17 [6, 7, 8, 9, 10, 11, 12, 13, 14] _ _ (coreCells (m := m1) (v := v') hwf.nc (by omega) ?_)
        refine at2 (a := (0 : Int) ≤ 0) (b := (0 : Int) < (m1.nc : Int)) (by omega) (by omega) (rd1 (rowU w) (.int .u64 w) (by rw [hw]; rfl) rfl ?_)
        by_cases hem : m1.el = []
        · obtain ⟨rfl, rfl⟩ := hxy hem
          refine At.mk' [7, 59, 60, 61] (i + 1, v') ⟨⟨by show i + 1 ≤ l.length; omega, hv'⟩, by show l.length - (i + 1) < l.length - i; omega⟩ ⟨?_, rfl⟩ ?_ rfl (by simp) (by simp) (by decide)
          · rw [wrap_i64 (i + 1) (by omega) (by omega)]
            rfl
          · show _ = [PO.rows true 1 (l.map rowZ), rtH, .gone, .gone, .rows2 false 5 [awA.map rowIns, awB.map rowIns], .rows false 1 [[.int .u64 0]]] ++ machS 6 (awM (l.take (i + 1))) v'
            rw [hm]
            rfl
        · have h1 : w = 1 := by
            rcases hgood.1 with h | h
            · exact absurd h hem
            · rw [hw] at h
              simpa using h
          subst h1
          refine brc_intro (fun _ => ?_) (fun _ => ?_)
          · refine brc_intro (fun _ => ?_) (fun _ => ?_)
            · refine At.mk' [7, 59, 60, 61] (i + 1, v') ⟨⟨by show i + 1 ≤ l.length; omega, hv'⟩, by show l.length - (i + 1) < l.length - i; omega⟩ ⟨?_, rfl⟩ ?_ rfl (by simp) (by simp) (by decide)
              · rw [wrap_i64 (i + 1) (by omega) (by omega)]
                rfl
              · show _ = [PO.rows true 1 (l.map rowZ), rtH, .gone, .gone, .rows2 false 5 [awA.map rowIns, awB.map rowIns], .rows false 1 [[.int .u64 0]]] ++ machS 6 (awM (l.take (i + 1))) v'
                rw [hm]
                rfl
            · refine At.mk' [7, 59, 60, 61] (i + 1, v') ⟨⟨by show i + 1 ≤ l.length; omega, hv'⟩, by show l.length - (i + 1) < l.length - i; omega⟩ ⟨?_, rfl⟩ ?_ rfl (by simp) (by simp) (by decide)
              · rw [wrap_i64 (i + 1) (by omega) (by omega)]
                rfl
              · show _ = [PO.rows true 1 (l.map rowZ), rtH, .gone, .gone, .rows2 false 5 [awA.map rowIns, awB.map rowIns], .rows false 1 [[.int .u64 0]]] ++ machS 6 (awM (l.take (i + 1))) v'
                rw [hm]
                rfl
          · refine brc_intro (fun _ => ?_) (fun _ => ?_)
            · refine At.mk' [7, 59, 60, 61] (i + 1, v') ⟨⟨by show i + 1 ≤ l.length; omega, hv'⟩, by show l.length - (i + 1) < l.length - i; omega⟩ ⟨?_, rfl⟩ ?_ rfl (by simp) (by simp) (by decide)
              · rw [wrap_i64 (i + 1) (by omega) (by omega)]
                rfl
              · show _ = [PO.rows true 1 (l.map rowZ), rtH, .gone, .gone, .rows2 false 5 [awA.map rowIns, awB.map rowIns], .rows false 1 [[.int .u64 0]]] ++ machS 6 (awM (l.take (i + 1))) v'
                rw [hm]
                rfl
            · refine At.mk' [7, 59, 60, 61] (i + 1, v') ⟨⟨by show i + 1 ≤ l.length; omega, hv'⟩, by show l.length - (i + 1) < l.length - i; omega⟩ ⟨?_, rfl⟩ ?_ rfl (by simp) (by simp) (by decide)
              · rw [wrap_i64 (i + 1) (by omega) (by omega)]
                rfl
              · show _ = [PO.rows true 1 (l.map rowZ), rtH, .gone, .gone, .rows2 false 5 [awA.map rowIns, awB.map rowIns], .rows false 1 [[.int .u64 0]]] ++ machS 6 (awM (l.take (i + 1))) v'
                rw [hm]
                rfl
  · have hlt : ¬ (i : Int) < (l.length : Int) := of_decide_eq_false hlt
    obtain rfl : i = l.length := by omega
    rw [List.take_length] at hI ⊢
    generalize awM l = m0 at hI ⊢
    obtain ⟨hall, hlen⟩ := hI.ends (by omega)
    refine SS.loop (fun p : Nat × VZ => p.1 ≤ 30 ∧ okV p.2) (fun p => [(7, cv (.ptr 6 0)), (109, i64 p.1)])
      (fun p => [.rows true 1 (l.map rowZ), rtH, .gone, .gone, .rows2 false 5 [awA.map rowIns, awB.map rowIns], .rows false 1 [[.int .u64 0]]] ++ machS 6 (awT m0 p.1) p.2) (fun p => 30 - p.1) [2, 3, 12, 13, 14]
      (At.mk' [7, 109] (0, v1) ⟨by simp, hv1⟩ ⟨rfl, rfl⟩ rfl rfl (by simp) (by simp) (by decide)) ?_
    rintro ⟨k, v2⟩ ⟨hk, hv2⟩
    change k ≤ 30 at hk
    have hI2 := (hI.rounds (by omega) k (by omega)).1
    refine S_r ?_
    refine brc_intro (fun hlt => ?_) (fun hlt => ?_)
    · have hlt : k < 30 := by
        have := of_decide_eq_true hlt
        have : (k : Int) < 30 := this
        omega
      change Does Tryd.prog 13 _ _ _
      refine Does.alone 15 (pick 1 2 (by decide) ?_)
      change Does Tryd.prog 31 _ _ _
      refine Does.on 15 [6, 7, 8, 9, 10, 11, 12, 13, 14] _ _ (coreStep (m := awT m0 k) (v := v2) hI2.wf hv2 1 (fun _ v3 hv3 => ?_) fun _ v3 hv3 => ?_)
      all_goals
        change Does Tryd.prog 31 _ _ _
        refine Does.on 15 [6, 7, 8, 9, 10, 11, 12, 13, 14] _ _ (coreStep (m := (stepZ (awT m0 k) 1).2) (v := v3) (hI2.wf.step 1) hv3 0 (fun _ v4 hv4 => ?_) fun _ v4 hv4 => ?_)
        all_goals
          refine At.mk' [7, 109] (k + 1, v4) ⟨⟨by show k + 1 ≤ 30; omega, hv4⟩, by show 30 - (k + 1) < 30 - k; omega⟩ ⟨?_, rfl⟩ rfl rfl (by simp) (by simp) (by decide)
          rw [wrap_i64 (k + 1) (by omega) (by omega)]
          rfl
    · have hlt : ¬ (k : Int) < 30 := of_decide_eq_false hlt
      obtain rfl : k = 30 := by omega
      have hwf := hI2.wf
      have hst : stuckZ (awT m0 30) = false := by rw [stuckZ, hall]; simp
      generalize awT m0 30 = m2 at *
      change Does Tryd.prog 34 _ _ _
      refine Does.on 15 [6, 7, 8, 9, 10, 11, 12, 13, 14] _ _ (coreEnds (m := m2) (v := v2) hwf ?_)
      rw [hall, hst]
      change Does Tryd.prog 32 _ _ _
      refine Does.on 15 [6, 7, 8, 9, 10, 11, 12, 13, 14] _ _ (coreEvents (m := m2) (v := v2) (by omega) ?_)
      exact fin (show ((m2.el.length : Int) == 2) = true by rw [hlen]; decide)

end Go.Mac
