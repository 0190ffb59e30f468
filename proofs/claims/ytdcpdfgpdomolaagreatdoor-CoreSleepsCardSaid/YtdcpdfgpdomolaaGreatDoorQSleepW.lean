/- Who sleeps waits: the walk. -/
import Derived.Test.YtdcpdfgpdomolaaGreatDoorQSleep
import Derived.Test.YtdcpdfgpdomolaaGreatDoorQWritten
import Derived.Test.YtdcpdfgpdomolaaGreatDoorQBehind
import Derived.Test.YtdcpdfgpdomolaaGreatDoorQTell
import Derived.Test.YtdcpdfgpdomolaaGreatDoorQGone
import Derived.Test.YtdcpdfgpdomolaaGreatDoorQActs
import Derived.Test.YtdcpdfgpdomolaaGreatDoorQSub
open Go Go.Proofs Go.Mac
set_option maxRecDepth 100000
namespace Go.Mac

section
variable {K : AV → List Nat → List PO → Prop} {m : MZ} {v : VZ}

/-- A poke of one of the threads. -/
theorem corePokeIn (hw : WF m) (t : Int) (ht : 0 ≤ t ∧ t < m.ts.length) (h0 : ¬ noT m.ss t → ∀ v', okV v' → K (cv .niliface) [] (machH (pokeZ m t) v')) (h1 : noT m.ss t → K (errC 6) [] (machH m v)) :
    Does Tryz.prog 13 [cv (.ptr 0 0), i64 t] (machH m v) K := by
  have hps := hw.ps
  have hlen := hw.len_ss
  refine does Tryz.func13 rfl (by decide) ?_
  change Does Tryz.prog 34 _ _ _
  refine Does.on 9 [5, 6] _ _ (lotPoke (n := m.ps.length) (k := m.ss.length) (nn := v.nl) (ss := m.ss) (ex := v.ex) t (by omega) rfl (by omega) (fun pre post x hs hx hno => ?_) fun hno => ?_)
  · have hnd := hw.ss.1
    have hpost : noT post t := fun s hs' e => by
      rw [hs, List.map_append, List.map_cons, List.nodup_append, List.nodup_cons] at hnd
      exact hnd.2.1.1 (List.mem_map.2 ⟨s, hs', e.trans hx.symm⟩)
    have e : m.ss.filter (fun s => s.t != t) = pre ++ post := by
      rw [hs, List.filter_append, List.filter_cons_of_neg (by simp [hx]), filter_noT hno, filter_noT hpost]
    have := h0 (fun hn => hn x (by rw [hs]; simp) hx) { v with nl := true, ex := ⟨0, 0⟩ :: v.ex } (fun _ => rfl)
    rw [pokeZ, e] at this
    rw [← List.length_append]
    exact this
  · exact h1 hno

end

theorem coreSleeps (ps : List (List InsZ)) (hl : ps.length ≤ 9223372036854775807) (ws : List Int) (hws : ∀ x ∈ ws, 0 ≤ x ∧ x < 18446744073709551616) (hwl : ws.length ≤ 9223372036854775807) (ms : List MoveZ) (t : Int) (_ht : -9223372036854775808 ≤ t ∧ t ≤ 9223372036854775807) :
    Does Tryz.prog 3 [cv (.slc 0 0 ps.length none false), cv (.slc 1 0 ws.length none false), cv (.slc 2 0 ms.length none false), i64 t] [.rows2 true 5 (ps.map fun p => p.map rowIns), .rows true 1 (ws.map rowU), .rows true 2 (ms.map rowMove), rtH, powH] fun v _ _ => v = bl true := by
  refine does Tryz.func3 rfl (by decide) ?_
  change Does Tryz.prog 6 _ _ _
  refine Does.alone 5 (gone ?_)
  change Does Tryz.prog 7 _ _ _
  refine Does.on 5 [4] _ _ (written ?_)
  refine brc_intro (fun h => ?_) (fun h0 => ?_)
  · exact rfl
  refine brc_intro (fun _ => rfl) (fun h => ?_)
  have hms : ms.length ≤ 300 := by
    have := of_decide_eq_false h
    omega
  change Does Tryz.prog 8 _ _ _
  refine Does.on 5 [0, 1] _ _ (fitsAll (ps := ps) (ws := ws) rfl rfl hl hwl ?_)
  refine brc_intro (fun _ => rfl) (fun hf => ?_)
  have hf : fitsP ps ws.length = true := by simpa using hf
  obtain ⟨z, hz⟩ : ∃ z, movesZ (mz0 ps ws) ms = z := ⟨_, rfl⟩
  obtain ⟨hr16, hp16, hn100⟩ := fits_facts hf
  have w0 : WF (mz0 ps ws) := mz0_wf (by omega) (by omega) hr16 hws
  have hzl : z.ts.length = ps.length := (hz ▸ acts_moves ms (acts_mz0 ps ws) w0 : ActInv ws ps.length z).len
  have hsl : SleepOk z := hz ▸ SleepOk.moves w0 (fun s hs => by cases hs) ms
  have hzp : z.ps = ps := hz ▸ moves_ps ms (mz0 ps ws)
  clear w0
  change Does Tryz.prog 9 _ _ _
  refine Does.on 5 [0, 1, 2] _ _ (behind (ps := ps) (ws := ws) (ms := ms) rfl rfl rfl hf (by omega) hws hz fun v hv hw => ?_)
  have hp0 : 0 < ps.length := by
    have h0 : ((ps.length : Int) == 0) = false := h0
    simp at h0
    exact List.length_pos_iff.2 h0
  change Does Tryz.prog 10 _ _ _
  refine Does.alone 14 (pick t ps.length (by omega) ?_)
  obtain ⟨s, hs, hsn⟩ : ∃ s : Nat, pickZ t ps.length = s ∧ s < ps.length := by
    have := pickZ_lt t (n := ps.length) (by omega)
    exact ⟨(pickZ t ps.length).toNat, by omega, by omega⟩
  rw [hs]
  have hr : 0 ≤ (s : Int) ∧ (s : Int) < z.ts.length := by omega
  have hnoT : ∀ x ∈ z.ss, x.t = s → ∃ (y : ThZ) (p : List InsZ) (i : InsZ), z.ts[s]? = some y ∧ ps[s]? = some p ∧ y.dn = false ∧ 1 ≤ y.pc ∧ p[y.pc - 1]? = some i ∧ i.op = 14 ∧ i.a = x.c := fun x hx hxs => by
    obtain ⟨u, y, p, i, h1, h2, h3, h4⟩ := hsl x hx
    obtain rfl : u = s := by omega
    exact ⟨y, p, i, h2, hzp ▸ h3, h4⟩
  change Does Tryz.prog 11 _ _ _
  refine Does.on 14 [5, 6, 7, 8, 9, 10, 11, 12, 13] _ _ (coreAt (m := z) (v := v) hw (s : Int) (fun h => absurd hr h) (fun _ hd => ?_) fun _ hd => ?_)
  · rw [Int.toNat_natCast] at hd
    have hno : noT z.ss s := fun x hx e => by
      obtain ⟨y, _, _, h1, _, h2, _⟩ := hnoT x hx e
      rw [thZ_get h1, h2] at hd
      cases hd
    change Does Tryz.prog 13 _ _ _
    refine Does.on 14 [5, 6, 7, 8, 9, 10, 11, 12, 13] _ _ (corePokeIn (m := z) (v := v) hw (s : Int) hr (fun h => absurd hno h) fun _ => ?_)
    change Does Tryz.prog 12 _ _ _
    refine Does.on 14 [3] _ _ (tellErrno 6 ?_)
    exact rfl
  rw [Int.toNat_natCast] at hd ⊢
  cases hfd : z.ss.find? (fun x => x.t == (s : Int)) with
  | none =>
    have hno : noT z.ss s := fun x hx e => by
      have := List.find?_eq_none.1 hfd x hx
      simp [e] at this
    have hc : cellZ z (s : Int) = -1 := by
      rw [cellZ, hfd]
      rfl
    rw [hc]
    change Does Tryz.prog 13 _ _ _
    refine Does.on 14 [5, 6, 7, 8, 9, 10, 11, 12, 13] _ _ (corePokeIn (m := z) (v := v) hw (s : Int) hr (fun h => absurd hno h) fun _ => ?_)
    change Does Tryz.prog 12 _ _ _
    refine Does.on 14 [3] _ _ (tellErrno 6 ?_)
    exact rfl
  | some x =>
  have hxm : x ∈ z.ss := List.mem_of_find?_eq_some hfd
  have hxt : x.t = s := by simpa using List.find?_some hfd
  obtain ⟨y, p, i, hy, hp, hyd, hpc, hi, hop, hia⟩ := hnoT x hxm hxt
  have hc : cellZ z (s : Int) = x.c := by
    rw [cellZ, hfd]
    rfl
  have hc0 : 0 ≤ x.c := (hw.ss.2 x hxm).2.2.1
  have hyp : (thZ z s) = y := thZ_get hy
  rw [hc, hyp]
  refine brc_intro (fun h => ?_) (fun _ => ?_)
  · have : x.c < 0 := of_decide_eq_true h
    omega
  refine brc_intro (fun h => ?_) (fun _ => ?_)
  · have : (y.pc : Int) < 1 := of_decide_eq_true h
    omega
  have hrow : (ps.map fun p => p.map rowIns)[0 + Int.toNat (s : Int)]? = some (p.map rowIns) := by simp [hp]
  have hpl := (List.getElem?_eq_some_iff.1 hi).1
  have hpb : p.length ≤ 10000 := by
    have hb := hr16 p (List.mem_of_getElem? hp)
    simp only [rightZ, Bool.and_eq_true, decide_eq_true_eq] at hb
    omega
  have hlm : (p.map rowIns).length = p.length := List.length_map ..
  have hwp : IntKind.i64.wrap ((y.pc : Int) - 1) = ((y.pc - 1 : Nat) : Int) := by
    rw [wrap_i64 _ (by omega) (by omega)]
    omega
  have hil : (p.map rowIns)[0 + Int.toNat (IntKind.i64.wrap ((y.pc : Int) - 1))]? = some (rowIns i) := by
    rw [hwp, Int.toNat_natCast, Nat.zero_add, List.getElem?_map, hi]
    rfl
  refine at2 (a := (0 : Int) ≤ (s : Int)) (b := (s : Int) < (ps.length : Int)) (by omega) (by omega) (Exists.intro _ (And.intro hrow ?_))
  refine brc_intro (fun h => ?_) (fun _ => ?_)
  · have : (y.pc : Int) > ((p.map rowIns).length : Int) := of_decide_eq_true h
    omega
  refine at2 (a := (0 : Int) ≤ (s : Int)) (b := (s : Int) < (ps.length : Int)) (by omega) (by omega) (Exists.intro _ (And.intro hrow ?_))
  have hsl2 : 0 + Int.toNat (s : Int) < (ps.map fun p => p.map rowIns).length := by rw [List.length_map]; omega
  have hj0 : 0 ≤ IntKind.i64.wrap ((y.pc : Int) - 1) := by omega
  have hj1 : IntKind.i64.wrap ((y.pc : Int) - 1) < ((p.map rowIns).length : Int) := by omega
  refine And.intro hsl2 (And.intro hj0 (And.intro hj1 (Exists.intro _ (Exists.intro _ (Exists.intro _ (And.intro hrow (And.intro hil (And.intro rfl ?_))))))))
  refine brc_intro (fun h => ?_) (fun _ => ?_)
  · have h : (i.op != 14) = true := h
    rw [hop] at h
    cases h
  refine at2 (a := (0 : Int) ≤ (s : Int)) (b := (s : Int) < (ps.length : Int)) (by omega) (by omega) (Exists.intro _ (And.intro hrow ?_))
  refine And.intro hsl2 (And.intro hj0 (And.intro hj1 (Exists.intro _ (Exists.intro _ (Exists.intro _ (And.intro hrow (And.intro hil (And.intro rfl ?_))))))))
  refine brc_intro (fun h => ?_) (fun _ => ?_)
  · have h : (i.a != x.c) = true := h
    rw [hia] at h
    simp at h
  have has : asleepZ z s = true := List.any_eq_true.2 ⟨x, hxm, by simp [hxt]⟩
  have hst : stepZ z s = (8, z) := by
    rw [stepZ, if_neg (by omega), Int.toNat_natCast, if_neg (by rw [hd]; decide), if_pos has]
  have hnn : ¬ noT z.ss (s : Int) := fun h => h x hxm hxt
  change Does Tryz.prog 14 _ _ _
  refine Does.on 14 [5, 6, 7, 8, 9, 10, 11, 12, 13] _ _ (coreStep (m := z) (v := v) hw hv (s : Int) (fun e0 v' hv' => ?_) fun e0 v' hv' => ?_)
  · rw [hst] at e0
    cases e0
  rw [hst]
  change Does Tryz.prog 13 _ _ _
  refine Does.on 14 [5, 6, 7, 8, 9, 10, 11, 12, 13] _ _ (corePokeIn (m := z) (v := v') hw (s : Int) hr (fun _ v2 hv2 => ?_) fun h => absurd h hnn)
  have hw2 := hw.poke (s : Int)
  have hno2 : noT (pokeZ z s).ss s := fun u hu e => by
    have := (List.mem_filter.1 hu).2
    simp [e] at this
  have hc2 : cellZ (pokeZ z s) (s : Int) = -1 := by
    have : (pokeZ z s).ss.find? (fun x => x.t == (s : Int)) = none := List.find?_eq_none.2 fun x hx => by simpa using hno2 x hx
    rw [cellZ, this]
    rfl
  have hth2 : thZ (pokeZ z s) s = thZ z s := rfl
  have hcan2 : canZ (pokeZ z s) s = true := can_in (x := y) (show (pokeZ z s).ts[s]? = some y from hy) hyd hno2
  have hr2 : 0 ≤ (s : Int) ∧ (s : Int) < (pokeZ z s).ts.length := hr
  generalize pokeZ z s = z2 at hw2 hno2 hc2 hth2 hcan2 hr2
  change Does Tryz.prog 11 _ _ _
  refine Does.on 14 [5, 6, 7, 8, 9, 10, 11, 12, 13] _ _ (coreAt (m := z2) (v := v2) hw2 (s : Int) (fun h => absurd hr2 h) (fun _ h => by rw [Int.toNat_natCast, hth2, hd] at h; cases h) fun _ _ => ?_)
  rw [Int.toNat_natCast, hth2, hc2, hyp]
  change Does Tryz.prog 12 _ _ _
  refine Does.on 14 [3] _ _ (tellErrno 8 ?_)
  refine brc_intro (fun _ => ?_) (fun h => ?_)
  · change Does Tryz.prog 15 _ _ _
    refine Does.on 14 [5, 6, 7, 8, 9, 10, 11, 12, 13] _ _ (coreCan (m := z2) (v := v2) hw2 (s : Int) ?_)
    rw [hcan2]
    exact rfl
  · have h : ((y.pc : Int) == (y.pc : Int)) = false := h
    simp at h

end Go.Mac
