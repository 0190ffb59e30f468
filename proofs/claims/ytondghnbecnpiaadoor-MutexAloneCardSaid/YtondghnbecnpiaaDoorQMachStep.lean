/- The machine of threads: a step. -/
import Derived.Test.YtondghnbecnpiaaDoorQMachFar
open Go Go.Proofs Go.Mac
set_option maxRecDepth 100000
namespace Go.Mac

section
variable {K : AV → List Nat → List PO → Prop} {m : MZ} {v : VZ}

abbrev errC (n : Int) : AV := cv (.iface 84 (.f (.int .i64 n)))

theorem rowT_dn {x : ThZ} (hr : x.rg.length = 8) {f : Nat} (hf : f = 9) : (rowT x)[f]? = some (.bool x.dn) := by
  subst hf
  rw [rowT, List.getElem?_cons_succ, List.getElem?_append_right (by simp [hr])]
  simp [hr]

theorem thZ_get {t : Nat} {x : ThZ} (h : m.ts[t]? = some x) : thZ m t = x := by
  rw [thZ, List.getD_eq_getElem?_getD, h]; rfl

theorem insZ_get {t pc : Nat} {p : List InsZ} {i : InsZ} (h : m.ps[t]? = some p) (hi : p[pc]? = some i) : insZ m t pc = i := by
  rw [insZ, List.getD_eq_getElem?_getD, List.getD_eq_getElem?_getD, h]
  show p[pc]?.getD _ = i
  rw [hi]; rfl

theorem asleep_of {t : Nat} {i : Nat} {s : Slp} (h : hasT m.ss t i s) : asleepZ m t = true := List.any_eq_true.2 ⟨s, List.mem_iff_getElem?.2 ⟨i, h.1⟩, by simpa using h.2.1⟩

theorem asleep_no {t : Int} (h : noT m.ss t) : asleepZ m t = false := by
  rw [asleepZ, List.any_eq_false]
  exact fun s hs => by simpa using h s hs

theorem WF.okI {m : MZ} (hw : WF m) {p : List InsZ} {i : InsZ} (hp : p ∈ m.ps) (hi : i ∈ p) : okI m.nc p.length i = true := by
  have := hw.right p hp
  simp only [rightZ, Bool.and_eq_true, List.all_eq_true] at this
  exact this.1.2 i hi

theorem WF.len_ss {m : MZ} (hw : WF m) : m.ss.length ≤ 20000 := Nat.le_trans hw.sl hw.k

set_option maxHeartbeats 2000000 in
theorem coreStep (hw : WF m) (hv : okV v) (t : Int) (h0 : (stepZ m t).1 = 0 → ∀ v', okV v' → K (cv .niliface) [6, 7, 8] (machH (stepZ m t).2 v')) (h1 : (stepZ m t).1 ≠ 0 → ∀ v', okV v' → K (errC (stepZ m t).1) [6, 7, 8] (machH (stepZ m t).2 v')) :
    Does Tryd.prog 20 [cv (.ptr 0 0), i64 t] (machH m v) K := by
  have hps := hw.ps
  have hnc := hw.nc
  have hn := hw.n
  have hk20 := hw.k
  refine Does.moved [6, 7, 8] ?_
  refine does Tryd.func20 rfl (by decide) ?_
  have hbad : ∀ n : Int, n ≠ 0 → stepZ m t = (n, m) → K (errC n) [6, 7, 8] (machH m v) := fun n hn e => by
    have := h1 (by rw [e]; exact hn) v hv
    rw [e] at this
    exact this
  refine SS.inlR ?_
  refine brc_intro (fun h => ?_) (fun h => ?_)
  · have h := of_decide_eq_true h
    exact ⟨noM', hbad 2 (by decide) (by rw [stepZ, if_pos (.inl h)])⟩
  have ht0 := of_decide_eq_false h
  refine brc_intro (fun h => ?_) (fun h => ?_)
  · have h := of_decide_eq_true h
    exact ⟨noM', hbad 2 (by decide) (by rw [stepZ, if_pos (.inr (by omega))])⟩
  have ht1 := of_decide_eq_false h
  obtain ⟨k, rfl⟩ := Int.eq_ofNat_of_zero_le (show 0 ≤ t by omega)
  have htk : k < m.ts.length := by omega
  obtain ⟨x, hx⟩ : ∃ x, m.ts[k]? = some x := ⟨_, List.getElem?_eq_getElem htk⟩
  obtain ⟨p, hp⟩ : ∃ p, m.ps[k]? = some p := ⟨_, List.getElem?_eq_getElem (by omega)⟩
  have hg := ts_get hx
  obtain ⟨hr, hrv⟩ := hw.rg x (List.mem_of_getElem? hx)
  have hth : thZ m k = x := thZ_get hx
  have e0 : 0 + Int.toNat (k : Int) = k := by omega
  have step1 : stepZ m k = if x.dn then (6, m) else if asleepZ m k then (8, m) else if m.k = 20000 then (4, m) else goZ m k := by
    rw [stepZ, if_neg (by omega), Int.toNat_natCast, hth]
  refine at2 (a := (0 : Int) ≤ (k : Int)) (b := (k : Int) < (m.ps.length : Int)) (by omega) (by omega) (rd1 (rowT x) (.bool x.dn) (by rw [e0]; exact hg) (rowT_dn hr rfl) ?_)
  refine brc_intro (fun hdn => ?_) (fun hdn => ?_)
  · exact ⟨noM', hbad 6 (by decide) (by rw [step1, if_pos hdn])⟩
  rw [if_neg (by rw [hdn]; decide)] at step1
  change Does Tryd.prog 56 _ _ _
  refine Does.on 9 [5, 6] _ _ (lotCell (n := m.ps.length) (k := m.ss.length) (nn := v.nl) (ss := m.ss) (ex := v.ex) k rfl (by have := hw.len_ss; omega) (fun i s hs => ?_) fun hno => ?_)
  · have hsc := hw.ss.2 s (List.mem_iff_getElem?.2 ⟨i, hs.1⟩)
    refine brc_intro (fun _ => ?_) (fun h => absurd (of_decide_eq_false h) (by omega))
    exact ⟨noM', hbad 8 (by decide) (by rw [step1, if_pos (asleep_of hs)])⟩
  rw [if_neg (by rw [asleep_no hno]; decide)] at step1
  refine brc_intro (fun h => ?_) (fun h => ?_)
  · have h : m.k = 20000 := by
      have := beq_iff_eq.1 h
      omega
    exact ⟨noM', hbad 4 (by decide) (by rw [step1, if_pos h])⟩
  have hk2 : m.k ≠ 20000 := by
    have := beq_eq_false_iff_ne.1 h
    omega
  rw [if_neg hk2] at step1
  obtain ⟨hpc1, hpc2⟩ := hw.pc k x p hx hp
  have hpc := hpc2 hdn
  obtain ⟨⟨op, a, b, c, d⟩, hi⟩ : ∃ i, p[x.pc]? = some i := ⟨_, List.getElem?_eq_getElem hpc⟩
  have ew : IntKind.i64.wrap ((m.k : Int) + 1) = ((m.k + 1 : Nat) : Int) := by rw [wrap_i64 _ (by omega) (by omega)]; omega
  have ep : IntKind.i64.wrap ((x.pc : Int) + 1) = ((x.pc + 1 : Nat) : Int) := by rw [wrap_i64 _ (by have := hw.right p (List.mem_of_getElem? hp); simp [rightZ] at this; omega) (by have := hw.right p (List.mem_of_getElem? hp); simp [rightZ] at this; omega)]; omega
  have hpm : (m.ps.map fun p => p.map rowIns)[0 + Int.toNat (k : Int)]? = some (p.map rowIns) := by rw [e0]; simp [hp]
  have him : (p.map rowIns)[0 + Int.toNat (x.pc : Int)]? = some (rowIns ⟨op, a, b, c, d⟩) := gIns hi
  have hplt : 0 + Int.toNat (k : Int) < (m.ps.map fun p => p.map rowIns).length := by rw [e0]; simp; omega
  have hpl : ((x.pc : Nat) : Int) < ((p.map rowIns).length : Int) := by simp; omega
  refine at2 (a := (0 : Int) ≤ (k : Int)) (b := (k : Int) < (m.ps.length : Int)) (by omega) (by omega) ?_
  change SS Tryd.prog _ _ _ _ _ _ _
  rw [e0, ew]
  refine SS.drawR follows (by decide) ?_
  refine at2 (a := (0 : Int) ≤ (k : Int)) (b := (k : Int) < (m.ps.length : Int)) (by omega) (by omega) ?_
  refine Exists.intro (p.map rowIns) (And.intro hpm ?_)
  refine rd1 (rowT x) (.int .i64 x.pc) hg rfl ?_
  refine And.intro hplt (at2 (a := (0 : Int) ≤ (x.pc : Int)) (b := (x.pc : Int) < ((p.map rowIns).length : Int)) (by omega) hpl ?_)
  refine Exists.intro (p.map rowIns) (Exists.intro (rowIns ⟨op, a, b, c, d⟩) (And.intro hpm (And.intro him ?_)))
  repeat' (first | refine And.intro rfl ?_ | refine And.intro (And.intro (by omega) (And.intro (by omega) rfl)) ?_ | refine And.intro (Exists.intro (p.map rowIns) (And.intro hpm rfl)) ?_ | refine And.intro (Exists.intro (rowT x) (Exists.intro (.int .i64 x.pc) (And.intro hg (And.intro rfl rfl)))) ?_ | refine And.intro (And.intro hplt (And.intro (by omega) (And.intro hpl rfl))) ?_ | refine And.intro (Exists.intro (p.map rowIns) (Exists.intro (rowIns ⟨op, a, b, c, d⟩) (And.intro hpm (And.intro him rfl)))) ?_ | fail)
  refine rd1 (rowT x) (.int .i64 x.pc) hg rfl ?_
  refine wrF (rowT x) (.int .i64 (IntKind.i64.wrap ((x.pc : Int) + 1))) hg rfl (by rw [rowT_len hr]; decide) ?_
  rw [pc_set ep ?_]
  rotate_left
  · rfl
  have hins : insZ m k x.pc = ⟨op, a, b, c, d⟩ := insZ_get hp hi
  have hx2 : (m.ts.set k { x with pc := x.pc + 1 })[k]? = some { x with pc := x.pc + 1 } := List.getElem?_set_self htk
  have hon : onZ m k = { m with k := m.k + 1 }.th k { x with pc := x.pc + 1 } := by rw [onZ, hth]
  rw [goZ, hth, hins, hon] at step1
  have hok := hw.okI (List.mem_of_getElem? hp) (List.mem_of_getElem? hi)
  have hgood : ∀ m', stepZ m k = (0, m') → ∀ v', okV v' → K (cv .niliface) [6, 7, 8] (machH m' v') := fun m' e v' hv' => by
    have := h0 (by rw [e]) v' hv'
    rw [e] at this
    exact this
  have hend : ∀ m', stepZ m k = (13, m') → ∀ v', okV v' → K (errC 13) [6, 7, 8] (machH m' v') := fun m' e v' hv' => by
    have := h1 (by rw [e]; exact (show (13 : Int) ≠ 0 by decide)) v' hv'
    rw [e] at this
    exact this
  have hal := hw.al
  have hel := hw.el
  have hsl := hw.sl
  have hws := hw.ws.1
  change Does Tryd.prog 57 _ _ _
  refine Does.on 10 [0, 1, 2, 3, 4, 5, 6, 7, 8] _ _ (coreLocal (m := { m with k := m.k + 1 }.th k { x with pc := x.pc + 1 }) (v := v) k { x with pc := x.pc + 1 } op a b c d hx2 hr hok (fun x' hl => ?_) fun hl => ?_)
  · exact ⟨noM', hgood _ (by rw [step1, doZ, hl]) v hv⟩
  · change Does Tryd.prog 58 _ _ _
    refine Does.on 10 [0, 1, 2, 3, 4, 5, 6, 7, 8] _ _ (coreFar (m := { m with k := m.k + 1 }.th k { x with pc := x.pc + 1 }) (v := v) k { x with pc := x.pc + 1 } op a b c d hx2 hr hrv hnc (by show m.ps.length = (m.ts.set k _).length; rw [List.length_set]; exact hps) hok hl
      (by show m.al.length < _; omega) (by show m.el.length < _; omega) (by show m.nc ≤ 300; omega) (by show (m.ts.set k _).length ≤ 16; rw [List.length_set]; exact hn) (by show m.ss.length < _; omega) hno hv (fun m' hf v' hv' => ?_) fun hf => ?_)
    · exact ⟨by decide, hgood _ (by rw [step1, doZ, hl]; dsimp only; rw [hf]) v' hv'⟩
    · refine wrF (rowT { x with pc := x.pc + 1 }) (.bool true) (ts_get hx2) rfl (by rw [rowT_len (x := { x with pc := x.pc + 1 }) hr]; decide) ?_
      rw [dn_set (x := { x with pc := x.pc + 1 }) hr ?_]
      rotate_left
      · rfl
      have hlast := hend (({ m with k := m.k + 1 }.th k { x with pc := x.pc + 1 }).th k { x with pc := x.pc + 1, dn := true }) (by rw [step1, doZ, hl]; dsimp only; rw [hf]) v hv
      exact ⟨by decide, hlast⟩

end
end Go.Mac
