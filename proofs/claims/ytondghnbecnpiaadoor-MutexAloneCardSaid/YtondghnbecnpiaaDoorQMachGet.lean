/- The machine of threads: what is asked of it. -/
import Derived.Test.YtondghnbecnpiaaDoorQMachStep
open Go Go.Proofs Go.Mac
set_option maxRecDepth 100000
namespace Go.Mac

/-- The machine's objects, from the s-th on. -/
abbrev machS (s : Nat) (m : MZ) (v : VZ) : List PO :=
  [.one [.slc (s + 1) 0 m.ps.length none v.np, .slc (s + 2) 0 m.ps.length none true, .ptr (s + 3) 0, .ptr (s + 5) 0, .slc (s + 7) 0 m.al.length none v.na, .slc (s + 8) 0 m.el.length none v.ne, .f (.int .i64 m.k)],
   .rows2 false 5 (m.ps.map fun p => p.map rowIns), .rows false 10 (m.ts.map rowT), .one [.slc (s + 4) 0 m.nc none v.nm], .rows false 1 (m.ws.map rowU),
   .one [.f (.int .i64 m.ps.length), .slc (s + 6) 0 m.ss.length none v.nl], .rows false 2 ((m.ss ++ v.ex).map rowS), .rows false 6 (m.al.map rowAct), .rows false 4 (m.el.map rowEv)]

/-- Can a thread go on? -/
def canZ (m : MZ) (t : Int) : Bool := decide (0 ≤ t ∧ t < (m.ts.length : Int)) && !(thZ m t.toNat).dn && !asleepZ m t

def allZ (m : MZ) : Bool := m.ts.all (·.dn)
def stuckZ (m : MZ) : Bool := (List.range m.ts.length).all (fun t => !canZ m (t : Int)) && !allZ m

section
variable {K : AV → List Nat → List PO → Prop} {m : MZ} {v : VZ}

theorem coreEvents (hel : m.el.length < 1000000) (h : K (cv (.slc 9 0 m.el.length none false)) [] (machH m v ++ [.rows false 4 (m.el.map rowEv)])) :
    Does Tryd.prog 22 [cv (.ptr 0 0)] (machH m v) K := by
  refine does Tryd.func22 rfl (by decide) ?_
  have e : (List.take m.el.length (List.drop 0 (m.el.map rowEv))) = m.el.map rowEv := by rw [List.drop_zero, List.take_of_length_le]; simp
  have e2 : (m.el.map rowEv).length = m.el.length := by simp
  refine And.intro (by simp) (And.intro ?_ (And.intro ?_ ?_))
  · rw [e, e2]
    show m.el.length * 32 ≤ _
    omega
  · rw [e, e2]; omega
  · rw [e, e2]
    exact h

theorem coreCells (hnc : m.ws.length = m.nc) (hws : m.nc ≤ 300) (h : K (cv (.slc 9 0 m.nc none false)) [] (machH m v ++ [.rows false 1 (m.ws.map rowU)])) :
    Does Tryd.prog 27 [cv (.ptr 0 0)] (machH m v) K := by
  refine does Tryd.func27 rfl (by decide) ?_
  change Does Tryd.prog 62 _ _ _
  refine Does.on 9 [3, 4] _ _ (memWords (n := m.nc) (nn := v.nm) (ws := m.ws) hnc hws ?_)
  exact h

theorem coreCan (hw : WF m) (t : Int) (h : K (bl (canZ m t)) [] (machH m v)) : Does Tryd.prog 59 [cv (.ptr 0 0), i64 t] (machH m v) K := by
  have hps := hw.ps
  refine does Tryd.func59 rfl (by decide) ?_
  have fin0 : ∀ b : Bool, b = canZ m t → K (bl b) [] (machH m v) := fun b e => e ▸ h
  refine brc_intro (fun h1 => ?_) (fun h1 => ?_)
  · have h1 := of_decide_eq_true h1
    refine brc_intro (fun h2 => ?_) (fun h2 => ?_)
    · have h2 := of_decide_eq_true h2
      obtain ⟨k, rfl⟩ := Int.eq_ofNat_of_zero_le h1
      obtain ⟨x, hx⟩ : ∃ x, m.ts[k]? = some x := ⟨_, List.getElem?_eq_getElem (by omega)⟩
      have hg := ts_get hx
      obtain ⟨hr, _⟩ := hw.rg x (List.mem_of_getElem? hx)
      have e0 : 0 + Int.toNat (k : Int) = k := by omega
      have hc : canZ m k = (!x.dn && !asleepZ m k) := by
        rw [canZ, Int.toNat_natCast, thZ_get hx, show decide (0 ≤ (k : Int) ∧ (k : Int) < (m.ts.length : Int)) = true from decide_eq_true (by omega)]
        simp
      refine at2 (a := (0 : Int) ≤ (k : Int)) (b := (k : Int) < (m.ps.length : Int)) (by omega) (by omega) (rd1 (rowT x) (.bool x.dn) (by rw [e0]; exact hg) (rowT_dn hr rfl) ?_)
      refine brc_intro (fun h3 => ?_) (fun h3 => ?_)
      · have h3 := notT h3
        change Does Tryd.prog 56 _ _ _
        refine Does.on 9 [5, 6] _ _ (lotCell (n := m.ps.length) (k := m.ss.length) (nn := v.nl) (ss := m.ss) (ex := v.ex) k rfl (by have := hw.len_ss; omega) (fun i s hs => ?_) fun hno => ?_)
        · have hsc := hw.ss.2 s (List.mem_iff_getElem?.2 ⟨i, hs.1⟩)
          refine fin0 (decide (s.c < 0)) ?_
          rw [hc, asleep_of hs]
          simp; omega
        · refine fin0 true ?_
          rw [hc, asleep_no hno, h3]
          rfl
      · refine fin0 false ?_
        rw [hc, notF h3]
        rfl
    · have h2 := of_decide_eq_false h2
      refine fin0 false ?_
      rw [canZ, show decide (0 ≤ t ∧ t < (m.ts.length : Int)) = false from decide_eq_false (by omega)]
      rfl
  · have h1 := of_decide_eq_false h1
    refine fin0 false ?_
    rw [canZ, show decide (0 ≤ t ∧ t < (m.ts.length : Int)) = false from decide_eq_false (by omega)]
    rfl

theorem coreEnds (hw : WF m) (h : K (.tup [.c (.f (.bool (allZ m))), .c (.f (.bool (stuckZ m)))]) [] (machH m v)) : Does Tryd.prog 21 [cv (.ptr 0 0)] (machH m v) K := by
  have hps := hw.ps
  have hn := hw.n
  refine does Tryd.func21 rfl (by decide) ?_
  refine SS.loop (fun i : Nat => i ≤ m.ts.length) (fun i => [(0, cv (.ptr 0 0)), (2, bl ((m.ts.take i).all (·.dn))), (3, bl ((List.range i).all (fun t => !canZ m (t : Int)))), (9, i64 m.ps.length), (10, i64 i)]) (fun _ => machH m v) (fun i => m.ts.length - i) []
    (At.mk' [0, 2, 3, 9, 10] 0 (by simp) ⟨rfl, rfl⟩ rfl rfl (by simp) (by simp) (by simp)) ?_
  intro i hi
  change i ≤ m.ts.length at hi
  refine S_r ?_
  refine brc_intro (fun hlt => ?_) (fun hlt => ?_)
  · have hlt : i < m.ts.length := by
      have := of_decide_eq_true hlt
      have : (i : Int) < (m.ps.length : Int) := this
      omega
    obtain ⟨x, hx⟩ : ∃ x, m.ts[i]? = some x := ⟨_, List.getElem?_eq_getElem hlt⟩
    have hg := ts_get hx
    obtain ⟨hr, _⟩ := hw.rg x (List.mem_of_getElem? hx)
    have e0 : 0 + Int.toNat (i : Int) = i := by omega
    have e1 : (m.ts.take (i + 1)).all (·.dn) = ((m.ts.take i).all (·.dn) && x.dn) := by rw [List.take_add_one, hx]; simp
    have e2 : (List.range (i + 1)).all (fun t => !canZ m (t : Int)) = ((List.range i).all (fun t => !canZ m (t : Int)) && !canZ m (i : Int)) := by rw [List.range_succ]; simp
    refine brc_intro (fun ha => ?_) (fun ha => ?_)
    · refine at2 (a := (0 : Int) ≤ (i : Int)) (b := (i : Int) < (m.ps.length : Int)) (by omega) (by omega) (rd1 (rowT x) (.bool x.dn) (by rw [e0]; exact hg) (rowT_dn hr rfl) ?_)
      refine brc_intro (fun hs => ?_) (fun hs => ?_)
      · change Does Tryd.prog 59 _ _ _
        refine coreCan hw i ?_
        refine At.mk' [0, 2, 3, 9, 10] (i + 1) ⟨hlt, by omega⟩ ⟨?_, rfl⟩ rfl rfl (by simp) (by simp) (by simp)
        rw [wrap_i64 (i + 1) (by omega) (by omega), e1, e2, ha, hs]
        rfl
      · refine At.mk' [0, 2, 3, 9, 10] (i + 1) ⟨hlt, by omega⟩ ⟨?_, rfl⟩ rfl rfl (by simp) (by simp) (by simp)
        rw [wrap_i64 (i + 1) (by omega) (by omega), e1, e2, ha, hs]
        rfl
    · refine brc_intro (fun hs => ?_) (fun hs => ?_)
      · change Does Tryd.prog 59 _ _ _
        refine coreCan hw i ?_
        refine At.mk' [0, 2, 3, 9, 10] (i + 1) ⟨hlt, by omega⟩ ⟨?_, rfl⟩ rfl rfl (by simp) (by simp) (by simp)
        rw [wrap_i64 (i + 1) (by omega) (by omega), e1, e2, ha, hs]
        rfl
      · refine At.mk' [0, 2, 3, 9, 10] (i + 1) ⟨hlt, by omega⟩ ⟨?_, rfl⟩ rfl rfl (by simp) (by simp) (by simp)
        rw [wrap_i64 (i + 1) (by omega) (by omega), e1, e2, ha, hs]
        rfl
  · have hlt : ¬ (i : Int) < (m.ps.length : Int) := of_decide_eq_false hlt
    obtain rfl : i = m.ts.length := by omega
    have e : m.ts.take m.ts.length = m.ts := List.take_length
    rw [e]
    refine brc_intro (fun hs => ?_) (fun hs => ?_)
    · refine eqb (K := fun b => K (.tup [.c (.f (.bool (allZ m))), .c (.f (.bool b))]) [] (machH m v)) h ?_
      rw [stuckZ, hs]
      rfl
    · refine eqb (K := fun b => K (.tup [.c (.f (.bool (allZ m))), .c (.f (.bool b))]) [] (machH m v)) h ?_
      rw [stuckZ, hs]
      rfl

theorem coreSteps (h : K (i64 m.k) [] (machH m v)) : Does Tryd.prog 51 [cv (.ptr 0 0)] (machH m v) K := by
  refine does Tryd.func51 rfl (by decide) ?_
  exact h

/-- Where a thread sleeps; -1: it doesn't. -/
def cellZ (m : MZ) (t : Int) : Int := ((m.ss.find? fun s => s.t == t).map (·.c)).getD (-1)

theorem cellZ_has {t : Int} {i : Nat} {s : Slp} (h : hasT m.ss t i s) : cellZ m t = s.c := by
  obtain ⟨h1, h2, h3⟩ := h
  have : m.ss.find? (fun s => s.t == t) = some s := by
    rw [List.find?_eq_some_iff_getElem]
    have hi := (List.getElem?_eq_some_iff.1 h1).1
    refine ⟨by simpa using h2, i, hi, (List.getElem?_eq_some_iff.1 h1).2, fun j hj => ?_⟩
    have := h3 j m.ss[j] hj (List.getElem?_eq_getElem _)
    simpa using this
  rw [cellZ, this]; rfl

theorem cellZ_no {t : Int} (h : noT m.ss t) : cellZ m t = -1 := by
  have : m.ss.find? (fun s => s.t == t) = none := by
    rw [List.find?_eq_none]
    exact fun s hs => by simpa using h s hs
  rw [cellZ, this]; rfl

theorem coreAt (hw : WF m) (t : Int) (h2 : ¬ (0 ≤ t ∧ t < m.ts.length) → K (.tup [.c (.f (.int .i64 0)), .c (.f (.int .i64 0)), .c (.iface 84 (.f (.int .i64 2)))]) [] (machH m v))
    (h6 : 0 ≤ t ∧ t < m.ts.length → (thZ m t.toNat).dn = true → K (.tup [.c (.f (.int .i64 0)), .c (.f (.int .i64 0)), .c (.iface 84 (.f (.int .i64 6)))]) [] (machH m v))
    (h : 0 ≤ t ∧ t < m.ts.length → (thZ m t.toNat).dn = false → K (.tup [.c (.f (.int .i64 (thZ m t.toNat).pc)), .c (.f (.int .i64 (cellZ m t))), .c .niliface]) [] (machH m v)) :
    Does Tryd.prog 49 [cv (.ptr 0 0), i64 t] (machH m v) K := by
  have hps := hw.ps
  refine does Tryd.func49 rfl (by decide) ?_
  refine SS.inlR ?_
  refine brc_intro (fun h1 => ?_) (fun h1 => ?_)
  · have := of_decide_eq_true h1
    exact h2 (by omega)
  have h1 := of_decide_eq_false h1
  refine brc_intro (fun h3 => ?_) (fun h3 => ?_)
  · have := of_decide_eq_true h3
    exact h2 (by omega)
  have h3 := of_decide_eq_false h3
  obtain ⟨k, rfl⟩ := Int.eq_ofNat_of_zero_le (show 0 ≤ t by omega)
  obtain ⟨x, hx⟩ : ∃ x, m.ts[k]? = some x := ⟨_, List.getElem?_eq_getElem (by omega)⟩
  have hg := ts_get hx
  obtain ⟨hr, _⟩ := hw.rg x (List.mem_of_getElem? hx)
  have e0 : 0 + Int.toNat (k : Int) = k := by omega
  rw [Int.toNat_natCast, thZ_get hx] at h h6
  refine at2 (a := (0 : Int) ≤ (k : Int)) (b := (k : Int) < (m.ps.length : Int)) (by omega) (by omega) (rd1 (rowT x) (.bool x.dn) (by rw [e0]; exact hg) (rowT_dn hr rfl) ?_)
  refine brc_intro (fun h4 => h6 (by omega) h4) (fun h4 => ?_)
  have h := h (by omega) h4
  refine SS.drawR follows (by decide) ?_
  refine at2 (a := (0 : Int) ≤ (k : Int)) (b := (k : Int) < (m.ps.length : Int)) (by omega) (by omega) (rd1 (rowT x) (.int .i64 x.pc) (by rw [e0]; exact hg) rfl ?_)
  change Does Tryd.prog 56 _ _ _
  refine Does.on 9 [5, 6] _ _ (lotCell (n := m.ps.length) (k := m.ss.length) (nn := v.nl) (ss := m.ss) (ex := v.ex) k rfl (by have := hw.len_ss; omega) (fun i s hs => ?_) fun hno => ?_)
  · rw [cellZ_has hs] at h
    have hg0 : (m.ts.map rowT)[0 + Int.toNat (k : Int)]? = some (rowT x) := by rw [e0]; exact hg
    repeat' (first | refine And.intro rfl ?_ | refine And.intro (And.intro (by omega) (And.intro (by omega) rfl)) ?_ | refine And.intro (Exists.intro (rowT x) (Exists.intro (.int .i64 x.pc) (And.intro hg0 (And.intro rfl rfl)))) ?_ | fail)
    exact h
  · rw [cellZ_no hno] at h
    have hg0 : (m.ts.map rowT)[0 + Int.toNat (k : Int)]? = some (rowT x) := by rw [e0]; exact hg
    repeat' (first | refine And.intro rfl ?_ | refine And.intro (And.intro (by omega) (And.intro (by omega) rfl)) ?_ | refine And.intro (Exists.intro (rowT x) (Exists.intro (.int .i64 x.pc) (And.intro hg0 (And.intro rfl rfl)))) ?_ | fail)
    exact h

end
end Go.Mac
