/- What a step leaves alone: another thread's place; where it sleeps, if it isn't woken; and how many steps there were. -/
import Derived.Test.YtamgfmpkjakkdaaGreatDoorQWritten
import Derived.Test.YtamgfmpkjakkdaaGreatDoorQBehind
import Derived.Test.YtamgfmpkjakkdaaGreatDoorQTell
import Derived.Test.YtamgfmpkjakkdaaGreatDoorQGone
import Derived.Test.YtamgfmpkjakkdaaGreatDoorGBase
import Derived.Test.YtamgfmpkjakkdaaGreatDoorQApart
open Go Go.Proofs Go.Mac
set_option maxRecDepth 100000
namespace Go.Mac

set_option maxHeartbeats 8000000 in
theorem coreApart (ps : List (List InsZ)) (hl : ps.length ≤ 9223372036854775807) (ws : List Int) (hws : ∀ x ∈ ws, 0 ≤ x ∧ x < 18446744073709551616) (hwl : ws.length ≤ 9223372036854775807) (ms : List MoveZ) (t : Int) (_ht : -9223372036854775808 ≤ t ∧ t ≤ 9223372036854775807) (o : Int) (_ho : -9223372036854775808 ≤ o ∧ o ≤ 9223372036854775807) :
    Does Tryz.prog 3 [cv (.slc 0 0 ps.length none false), cv (.slc 1 0 ws.length none false), cv (.slc 2 0 ms.length none false), i64 t, i64 o] [.rows2 true 5 (ps.map fun p => p.map rowIns), .rows true 1 (ws.map rowU), .rows true 2 (ms.map rowMove), rtH, powH] fun v _ _ => v = bl true := by
  refine does Tryz.func3 rfl (by decide) ?_
  change Does Tryz.prog 9 _ _ _
  refine Does.alone 5 (gone ?_)
  change Does Tryz.prog 10 _ _ _
  refine Does.on 5 [4] _ _ (written ?_)
  refine brc_intro (fun _ => rfl) (fun h0 => ?_)
  refine brc_intro (fun _ => rfl) (fun h => ?_)
  have hms : ms.length ≤ 300 := by
    have := of_decide_eq_false h
    omega
  have hps : ps.length ≠ 0 := fun e => by
    rw [e] at h0
    simp at h0
  change Does Tryz.prog 11 _ _ _
  refine Does.on 5 [0, 1] _ _ (fitsAll (ps := ps) (ws := ws) rfl rfl hl hwl ?_)
  refine brc_intro (fun _ => rfl) (fun hf => ?_)
  have hf : fitsP ps ws.length = true := by simpa using hf
  obtain ⟨z, hz⟩ : ∃ z, movesZ (mz0 ps ws) ms = z := ⟨_, rfl⟩
  obtain ⟨_, hp16, _⟩ := fits_facts hf
  change Does Tryz.prog 12 _ _ _
  refine Does.on 5 [0, 1, 2] _ _ (behind (ps := ps) (ws := ws) (ms := ms) rfl rfl rfl hf (by omega) hws hz fun v hv hw => ?_)
  change Does Tryz.prog 13 _ _ _
  refine Does.alone 14 (pick t ps.length (by omega) ?_)
  change Does Tryz.prog 13 _ _ _
  refine Does.alone 14 (pick o ps.length (by omega) ?_)
  have ht := pickZ_lt t (n := (ps.length : Int)) (by omega)
  have ho := pickZ_lt o (n := (ps.length : Int)) (by omega)
  generalize pickZ t (ps.length : Int) = t' at ht
  generalize pickZ o (ps.length : Int) = o' at ho
  refine brc_intro (fun _ => rfl) (fun hne => ?_)
  have hne : o' ≠ t' := fun e => by
    rw [e] at hne
    simp at hne
  obtain ⟨hA1, hA2, hA3⟩ := apart_step hw hne
  have hA2 := hA2 ho.1
  have hC := step_case hw t'
  have hw' := hw.step t'
  have hk' := hw'.k
  have hk0 := hw.k
  have wk : IntKind.i64.wrap ((z.k : Int) + 1) = ((z.k + 1 : Nat) : Int) := wrap_i64 _ (by omega) (by omega)
  change Does Tryz.prog 14 _ _ _
  by_cases hr : 0 ≤ o' ∧ o' < z.ts.length
  · cases hd : (thZ z o'.toNat).dn with
    | true =>
      refine Does.on 14 [5, 6, 7, 8, 9, 10, 11, 12, 13] _ _ (coreAt (m := z) (v := v) hw o' (fun h => absurd hr h) (fun _ _ => ?_) fun _ h => by rw [hd] at h; cases h)
      change Does Tryz.prog 15 _ _ _
      refine Does.on 14 [5, 6, 7, 8, 9, 10, 11, 12, 13] _ _ (coreSteps (m := z) (v := v) ?_)
      change Does Tryz.prog 16 _ _ _
      refine Does.on 14 [5, 6, 7, 8, 9, 10, 11, 12, 13] _ _ (coreCan (m := z) (v := v) hw t' ?_)
      change Does Tryz.prog 17 _ _ _
      refine Does.on 14 [5, 6, 7, 8, 9, 10, 11, 12, 13] _ _ (coreStep (m := z) (v := v) hw hv t' (fun hc v' hv' => ?_) fun hc v' hv' => ?_)
      · obtain ⟨_, hk1, hc1, hk2⟩ : (stepZ z t').1 = 0 ∧ (stepZ z t').2.k = z.k + 1 ∧ canZ z t' = true ∧ z.k < 20000 := by
          rcases hC with ⟨_, h⟩ | ⟨h, _⟩
          · exact ⟨hc, h⟩
          · exact absurd hc h
        have q1 : (((stepZ z t').2.k : Int) == IntKind.i64.wrap ((z.k : Int) + 1)) = true := by rw [wk, hk1]; simp
        have q3 : decide ((z.k : Int) < 20000) = true := by simp; omega
        change Does Tryz.prog 14 _ _ _
        refine Does.on 14 [5, 6, 7, 8, 9, 10, 11, 12, 13] _ _ (coreAt (m := (stepZ z t').2) (v := v') hw' o' (fun h => absurd (by rw [hA1]; exact hr) h) (fun _ _ => ?_) fun _ h => by rw [hA2, hd] at h; cases h)
        rw [hc1]
        refine SS.drawR follows (by decide) ?_
        change Does Tryz.prog 15 _ _ _
        refine Does.on 14 [5, 6, 7, 8, 9, 10, 11, 12, 13] _ _ (coreSteps (m := (stepZ z t').2) (v := v') ?_)
        repeat' (first | refine And.intro rfl ?_ | fail)
        refine brc_intro (fun _ => ?_) (fun h => ?_)
        · repeat' (first | refine And.intro rfl ?_ | fail)
          change Does Tryz.prog 15 _ _ _
          refine Does.on 14 [5, 6, 7, 8, 9, 10, 11, 12, 13] _ _ (coreSteps (m := (stepZ z t').2) (v := v') ?_)
          repeat' (first | refine And.intro rfl ?_ | fail)
          refine fin ?_
          rw [q1]; rfl
        · exfalso
          rw [q1, q3] at h
          cases h
      · rcases hC with ⟨h, hk1, hc1, hk2⟩ | ⟨_, h13, hk1, hk2⟩
        · have hc : (stepZ z t').1 = 13 := h.resolve_left hc
          have q1 : (((stepZ z t').2.k : Int) == IntKind.i64.wrap ((z.k : Int) + 1)) = true := by rw [wk, hk1]; simp
          have q2 : ((stepZ z t').1 == 13) = true := by simp [hc]
          have q3 : decide ((z.k : Int) < 20000) = true := by simp; omega
          change Does Tryz.prog 14 _ _ _
          refine Does.on 14 [5, 6, 7, 8, 9, 10, 11, 12, 13] _ _ (coreAt (m := (stepZ z t').2) (v := v') hw' o' (fun h => absurd (by rw [hA1]; exact hr) h) (fun _ _ => ?_) fun _ h => by rw [hA2, hd] at h; cases h)
          rw [hc1]
          refine SS.drawR follows (by decide) ?_
          change Does Tryz.prog 15 _ _ _
          refine Does.on 14 [5, 6, 7, 8, 9, 10, 11, 12, 13] _ _ (coreSteps (m := (stepZ z t').2) (v := v') ?_)
          repeat' (first | refine And.intro rfl ?_ | fail)
          refine brc_intro (fun _ => ?_) (fun h => ?_)
          · repeat' (first | refine And.intro rfl ?_ | fail)
            change Does Tryz.prog 18 _ _ _
            refine Does.on 14 [3] _ _ (tellErrno (stepZ z t').1 ?_)
            repeat' (first | refine And.intro rfl ?_ | fail)
            change Does Tryz.prog 15 _ _ _
            refine Does.on 14 [5, 6, 7, 8, 9, 10, 11, 12, 13] _ _ (coreSteps (m := (stepZ z t').2) (v := v') ?_)
            repeat' (first | refine And.intro rfl ?_ | fail)
            refine fin ?_
            rw [q1, q2]; rfl
          · exfalso
            rw [q1, q3] at h
            cases h
        · have hc : (stepZ z t').1 ≠ 13 := h13
          cases hc1 : canZ z t' with
          | false =>
            have q1 : (((stepZ z t').2.k : Int) == IntKind.i64.wrap ((z.k : Int) + 1)) = false := by rw [wk, hk1]; simp; omega
            have q2 : ((stepZ z t').1 == 13) = false := by simp [hc]
            change Does Tryz.prog 14 _ _ _
            refine Does.on 14 [5, 6, 7, 8, 9, 10, 11, 12, 13] _ _ (coreAt (m := (stepZ z t').2) (v := v') hw' o' (fun h => absurd (by rw [hA1]; exact hr) h) (fun _ _ => ?_) fun _ h => by rw [hA2, hd] at h; cases h)
            refine SS.drawR follows (by decide) ?_
            change Does Tryz.prog 15 _ _ _
            refine Does.on 14 [5, 6, 7, 8, 9, 10, 11, 12, 13] _ _ (coreSteps (m := (stepZ z t').2) (v := v') ?_)
            repeat' (first | refine And.intro rfl ?_ | fail)
            refine brc_intro (fun _ => ?_) (fun h => ?_)
            · repeat' (first | refine And.intro rfl ?_ | fail)
              change Does Tryz.prog 18 _ _ _
              refine Does.on 14 [3] _ _ (tellErrno (stepZ z t').1 ?_)
              repeat' (first | refine And.intro rfl ?_ | fail)
              change Does Tryz.prog 15 _ _ _
              refine Does.on 14 [5, 6, 7, 8, 9, 10, 11, 12, 13] _ _ (coreSteps (m := (stepZ z t').2) (v := v') ?_)
              repeat' (first | refine And.intro rfl ?_ | fail)
              refine fin ?_
              rw [q1, q2]; rfl
            · exfalso
              rw [q1] at h
              cases h
          | true =>
            have hk2 : ¬ z.k < 20000 := hk2.resolve_left (by rw [hc1]; decide)
            have q1 : (((stepZ z t').2.k : Int) == IntKind.i64.wrap ((z.k : Int) + 1)) = false := by rw [wk, hk1]; simp; omega
            have q2 : ((stepZ z t').1 == 13) = false := by simp [hc]
            have q3 : decide ((z.k : Int) < 20000) = false := by simp; omega
            change Does Tryz.prog 14 _ _ _
            refine Does.on 14 [5, 6, 7, 8, 9, 10, 11, 12, 13] _ _ (coreAt (m := (stepZ z t').2) (v := v') hw' o' (fun h => absurd (by rw [hA1]; exact hr) h) (fun _ _ => ?_) fun _ h => by rw [hA2, hd] at h; cases h)
            refine SS.drawR follows (by decide) ?_
            change Does Tryz.prog 15 _ _ _
            refine Does.on 14 [5, 6, 7, 8, 9, 10, 11, 12, 13] _ _ (coreSteps (m := (stepZ z t').2) (v := v') ?_)
            repeat' (first | refine And.intro rfl ?_ | fail)
            refine brc_intro (fun _ => ?_) (fun h => ?_)
            · repeat' (first | refine And.intro rfl ?_ | fail)
              change Does Tryz.prog 18 _ _ _
              refine Does.on 14 [3] _ _ (tellErrno (stepZ z t').1 ?_)
              repeat' (first | refine And.intro rfl ?_ | fail)
              change Does Tryz.prog 15 _ _ _
              refine Does.on 14 [5, 6, 7, 8, 9, 10, 11, 12, 13] _ _ (coreSteps (m := (stepZ z t').2) (v := v') ?_)
              repeat' (first | refine And.intro rfl ?_ | fail)
              refine fin ?_
              rw [q1, q2]; rfl
            · exfalso
              rw [q1, q3] at h
              cases h
    | false =>
      refine Does.on 14 [5, 6, 7, 8, 9, 10, 11, 12, 13] _ _ (coreAt (m := z) (v := v) hw o' (fun h => absurd hr h) (fun _ h => by rw [hd] at h; cases h) fun _ _ => ?_)
      change Does Tryz.prog 15 _ _ _
      refine Does.on 14 [5, 6, 7, 8, 9, 10, 11, 12, 13] _ _ (coreSteps (m := z) (v := v) ?_)
      change Does Tryz.prog 16 _ _ _
      refine Does.on 14 [5, 6, 7, 8, 9, 10, 11, 12, 13] _ _ (coreCan (m := z) (v := v) hw t' ?_)
      change Does Tryz.prog 17 _ _ _
      refine Does.on 14 [5, 6, 7, 8, 9, 10, 11, 12, 13] _ _ (coreStep (m := z) (v := v) hw hv t' (fun hc v' hv' => ?_) fun hc v' hv' => ?_)
      · obtain ⟨_, hk1, hc1, hk2⟩ : (stepZ z t').1 = 0 ∧ (stepZ z t').2.k = z.k + 1 ∧ canZ z t' = true ∧ z.k < 20000 := by
          rcases hC with ⟨_, h⟩ | ⟨h, _⟩
          · exact ⟨hc, h⟩
          · exact absurd hc h
        have q1 : (((stepZ z t').2.k : Int) == IntKind.i64.wrap ((z.k : Int) + 1)) = true := by rw [wk, hk1]; simp
        have q3 : decide ((z.k : Int) < 20000) = true := by simp; omega
        change Does Tryz.prog 14 _ _ _
        refine Does.on 14 [5, 6, 7, 8, 9, 10, 11, 12, 13] _ _ (coreAt (m := (stepZ z t').2) (v := v') hw' o' (fun h => absurd (by rw [hA1]; exact hr) h) (fun _ h => by rw [hA2, hd] at h; cases h) fun _ _ => ?_)
        rw [hc1]
        rw [hA2]
        generalize cellZ (stepZ z t').2 o' = y at hA3
        generalize cellZ z o' = x at hA3
        refine SS.drawR follows (by decide) ?_
        refine brc_intro (fun _ => ?_) (fun h => ?_)
        · refine brc_intro (fun hxy => ?_) (fun hxy => ?_)
          · skip
            change Does Tryz.prog 15 _ _ _
            refine Does.on 14 [5, 6, 7, 8, 9, 10, 11, 12, 13] _ _ (coreSteps (m := (stepZ z t').2) (v := v') ?_)
            repeat' (first | refine And.intro rfl ?_ | fail)
            refine brc_intro (fun _ => ?_) (fun h => ?_)
            · repeat' (first | refine And.intro rfl ?_ | fail)
              change Does Tryz.prog 15 _ _ _
              refine Does.on 14 [5, 6, 7, 8, 9, 10, 11, 12, 13] _ _ (coreSteps (m := (stepZ z t').2) (v := v') ?_)
              repeat' (first | refine And.intro rfl ?_ | fail)
              refine fin ?_
              rw [q1]; rfl
            · exfalso
              rw [q1, q3] at h
              cases h
          · refine brc_intro (fun _ => ?_) (fun h => ?_)
            · skip
              change Does Tryz.prog 15 _ _ _
              refine Does.on 14 [5, 6, 7, 8, 9, 10, 11, 12, 13] _ _ (coreSteps (m := (stepZ z t').2) (v := v') ?_)
              repeat' (first | refine And.intro rfl ?_ | fail)
              refine brc_intro (fun _ => ?_) (fun h => ?_)
              · repeat' (first | refine And.intro rfl ?_ | fail)
                change Does Tryz.prog 15 _ _ _
                refine Does.on 14 [5, 6, 7, 8, 9, 10, 11, 12, 13] _ _ (coreSteps (m := (stepZ z t').2) (v := v') ?_)
                repeat' (first | refine And.intro rfl ?_ | fail)
                refine fin ?_
                rw [q1]; rfl
              · exfalso
                rw [q1, q3] at h
                cases h
            · exfalso
              rcases hA3 with rfl | rfl
              · simp at hxy
              · simp at h
        · exfalso
          simp at h
      · rcases hC with ⟨h, hk1, hc1, hk2⟩ | ⟨_, h13, hk1, hk2⟩
        · have hc : (stepZ z t').1 = 13 := h.resolve_left hc
          have q1 : (((stepZ z t').2.k : Int) == IntKind.i64.wrap ((z.k : Int) + 1)) = true := by rw [wk, hk1]; simp
          have q2 : ((stepZ z t').1 == 13) = true := by simp [hc]
          have q3 : decide ((z.k : Int) < 20000) = true := by simp; omega
          change Does Tryz.prog 14 _ _ _
          refine Does.on 14 [5, 6, 7, 8, 9, 10, 11, 12, 13] _ _ (coreAt (m := (stepZ z t').2) (v := v') hw' o' (fun h => absurd (by rw [hA1]; exact hr) h) (fun _ h => by rw [hA2, hd] at h; cases h) fun _ _ => ?_)
          rw [hc1]
          rw [hA2]
          generalize cellZ (stepZ z t').2 o' = y at hA3
          generalize cellZ z o' = x at hA3
          refine SS.drawR follows (by decide) ?_
          refine brc_intro (fun _ => ?_) (fun h => ?_)
          · refine brc_intro (fun hxy => ?_) (fun hxy => ?_)
            · skip
              change Does Tryz.prog 15 _ _ _
              refine Does.on 14 [5, 6, 7, 8, 9, 10, 11, 12, 13] _ _ (coreSteps (m := (stepZ z t').2) (v := v') ?_)
              repeat' (first | refine And.intro rfl ?_ | fail)
              refine brc_intro (fun _ => ?_) (fun h => ?_)
              · repeat' (first | refine And.intro rfl ?_ | fail)
                change Does Tryz.prog 18 _ _ _
                refine Does.on 14 [3] _ _ (tellErrno (stepZ z t').1 ?_)
                repeat' (first | refine And.intro rfl ?_ | fail)
                change Does Tryz.prog 15 _ _ _
                refine Does.on 14 [5, 6, 7, 8, 9, 10, 11, 12, 13] _ _ (coreSteps (m := (stepZ z t').2) (v := v') ?_)
                repeat' (first | refine And.intro rfl ?_ | fail)
                refine fin ?_
                rw [q1, q2]; rfl
              · exfalso
                rw [q1, q3] at h
                cases h
            · refine brc_intro (fun _ => ?_) (fun h => ?_)
              · skip
                change Does Tryz.prog 15 _ _ _
                refine Does.on 14 [5, 6, 7, 8, 9, 10, 11, 12, 13] _ _ (coreSteps (m := (stepZ z t').2) (v := v') ?_)
                repeat' (first | refine And.intro rfl ?_ | fail)
                refine brc_intro (fun _ => ?_) (fun h => ?_)
                · repeat' (first | refine And.intro rfl ?_ | fail)
                  change Does Tryz.prog 18 _ _ _
                  refine Does.on 14 [3] _ _ (tellErrno (stepZ z t').1 ?_)
                  repeat' (first | refine And.intro rfl ?_ | fail)
                  change Does Tryz.prog 15 _ _ _
                  refine Does.on 14 [5, 6, 7, 8, 9, 10, 11, 12, 13] _ _ (coreSteps (m := (stepZ z t').2) (v := v') ?_)
                  repeat' (first | refine And.intro rfl ?_ | fail)
                  refine fin ?_
                  rw [q1, q2]; rfl
                · exfalso
                  rw [q1, q3] at h
                  cases h
              · exfalso
                rcases hA3 with rfl | rfl
                · simp at hxy
                · simp at h
          · exfalso
            simp at h
        · have hc : (stepZ z t').1 ≠ 13 := h13
          cases hc1 : canZ z t' with
          | false =>
            have q1 : (((stepZ z t').2.k : Int) == IntKind.i64.wrap ((z.k : Int) + 1)) = false := by rw [wk, hk1]; simp; omega
            have q2 : ((stepZ z t').1 == 13) = false := by simp [hc]
            change Does Tryz.prog 14 _ _ _
            refine Does.on 14 [5, 6, 7, 8, 9, 10, 11, 12, 13] _ _ (coreAt (m := (stepZ z t').2) (v := v') hw' o' (fun h => absurd (by rw [hA1]; exact hr) h) (fun _ h => by rw [hA2, hd] at h; cases h) fun _ _ => ?_)
            rw [hA2]
            generalize cellZ (stepZ z t').2 o' = y at hA3
            generalize cellZ z o' = x at hA3
            refine SS.drawR follows (by decide) ?_
            refine brc_intro (fun _ => ?_) (fun h => ?_)
            · refine brc_intro (fun hxy => ?_) (fun hxy => ?_)
              · skip
                change Does Tryz.prog 15 _ _ _
                refine Does.on 14 [5, 6, 7, 8, 9, 10, 11, 12, 13] _ _ (coreSteps (m := (stepZ z t').2) (v := v') ?_)
                repeat' (first | refine And.intro rfl ?_ | fail)
                refine brc_intro (fun _ => ?_) (fun h => ?_)
                · repeat' (first | refine And.intro rfl ?_ | fail)
                  change Does Tryz.prog 18 _ _ _
                  refine Does.on 14 [3] _ _ (tellErrno (stepZ z t').1 ?_)
                  repeat' (first | refine And.intro rfl ?_ | fail)
                  change Does Tryz.prog 15 _ _ _
                  refine Does.on 14 [5, 6, 7, 8, 9, 10, 11, 12, 13] _ _ (coreSteps (m := (stepZ z t').2) (v := v') ?_)
                  repeat' (first | refine And.intro rfl ?_ | fail)
                  refine fin ?_
                  rw [q1, q2]; rfl
                · exfalso
                  rw [q1] at h
                  cases h
              · refine brc_intro (fun _ => ?_) (fun h => ?_)
                · skip
                  change Does Tryz.prog 15 _ _ _
                  refine Does.on 14 [5, 6, 7, 8, 9, 10, 11, 12, 13] _ _ (coreSteps (m := (stepZ z t').2) (v := v') ?_)
                  repeat' (first | refine And.intro rfl ?_ | fail)
                  refine brc_intro (fun _ => ?_) (fun h => ?_)
                  · repeat' (first | refine And.intro rfl ?_ | fail)
                    change Does Tryz.prog 18 _ _ _
                    refine Does.on 14 [3] _ _ (tellErrno (stepZ z t').1 ?_)
                    repeat' (first | refine And.intro rfl ?_ | fail)
                    change Does Tryz.prog 15 _ _ _
                    refine Does.on 14 [5, 6, 7, 8, 9, 10, 11, 12, 13] _ _ (coreSteps (m := (stepZ z t').2) (v := v') ?_)
                    repeat' (first | refine And.intro rfl ?_ | fail)
                    refine fin ?_
                    rw [q1, q2]; rfl
                  · exfalso
                    rw [q1] at h
                    cases h
                · exfalso
                  rcases hA3 with rfl | rfl
                  · simp at hxy
                  · simp at h
            · exfalso
              simp at h
          | true =>
            have hk2 : ¬ z.k < 20000 := hk2.resolve_left (by rw [hc1]; decide)
            have q1 : (((stepZ z t').2.k : Int) == IntKind.i64.wrap ((z.k : Int) + 1)) = false := by rw [wk, hk1]; simp; omega
            have q2 : ((stepZ z t').1 == 13) = false := by simp [hc]
            have q3 : decide ((z.k : Int) < 20000) = false := by simp; omega
            change Does Tryz.prog 14 _ _ _
            refine Does.on 14 [5, 6, 7, 8, 9, 10, 11, 12, 13] _ _ (coreAt (m := (stepZ z t').2) (v := v') hw' o' (fun h => absurd (by rw [hA1]; exact hr) h) (fun _ h => by rw [hA2, hd] at h; cases h) fun _ _ => ?_)
            rw [hA2]
            generalize cellZ (stepZ z t').2 o' = y at hA3
            generalize cellZ z o' = x at hA3
            refine SS.drawR follows (by decide) ?_
            refine brc_intro (fun _ => ?_) (fun h => ?_)
            · refine brc_intro (fun hxy => ?_) (fun hxy => ?_)
              · skip
                change Does Tryz.prog 15 _ _ _
                refine Does.on 14 [5, 6, 7, 8, 9, 10, 11, 12, 13] _ _ (coreSteps (m := (stepZ z t').2) (v := v') ?_)
                repeat' (first | refine And.intro rfl ?_ | fail)
                refine brc_intro (fun _ => ?_) (fun h => ?_)
                · repeat' (first | refine And.intro rfl ?_ | fail)
                  change Does Tryz.prog 18 _ _ _
                  refine Does.on 14 [3] _ _ (tellErrno (stepZ z t').1 ?_)
                  repeat' (first | refine And.intro rfl ?_ | fail)
                  change Does Tryz.prog 15 _ _ _
                  refine Does.on 14 [5, 6, 7, 8, 9, 10, 11, 12, 13] _ _ (coreSteps (m := (stepZ z t').2) (v := v') ?_)
                  repeat' (first | refine And.intro rfl ?_ | fail)
                  refine fin ?_
                  rw [q1, q2]; rfl
                · exfalso
                  rw [q1, q3] at h
                  cases h
              · refine brc_intro (fun _ => ?_) (fun h => ?_)
                · skip
                  change Does Tryz.prog 15 _ _ _
                  refine Does.on 14 [5, 6, 7, 8, 9, 10, 11, 12, 13] _ _ (coreSteps (m := (stepZ z t').2) (v := v') ?_)
                  repeat' (first | refine And.intro rfl ?_ | fail)
                  refine brc_intro (fun _ => ?_) (fun h => ?_)
                  · repeat' (first | refine And.intro rfl ?_ | fail)
                    change Does Tryz.prog 18 _ _ _
                    refine Does.on 14 [3] _ _ (tellErrno (stepZ z t').1 ?_)
                    repeat' (first | refine And.intro rfl ?_ | fail)
                    change Does Tryz.prog 15 _ _ _
                    refine Does.on 14 [5, 6, 7, 8, 9, 10, 11, 12, 13] _ _ (coreSteps (m := (stepZ z t').2) (v := v') ?_)
                    repeat' (first | refine And.intro rfl ?_ | fail)
                    refine fin ?_
                    rw [q1, q2]; rfl
                  · exfalso
                    rw [q1, q3] at h
                    cases h
                · exfalso
                  rcases hA3 with rfl | rfl
                  · simp at hxy
                  · simp at h
            · exfalso
              simp at h
  · skip
    refine Does.on 14 [5, 6, 7, 8, 9, 10, 11, 12, 13] _ _ (coreAt (m := z) (v := v) hw o' (fun _ => ?_) (fun h => absurd h hr) fun h => absurd h hr)
    change Does Tryz.prog 15 _ _ _
    refine Does.on 14 [5, 6, 7, 8, 9, 10, 11, 12, 13] _ _ (coreSteps (m := z) (v := v) ?_)
    change Does Tryz.prog 16 _ _ _
    refine Does.on 14 [5, 6, 7, 8, 9, 10, 11, 12, 13] _ _ (coreCan (m := z) (v := v) hw t' ?_)
    change Does Tryz.prog 17 _ _ _
    refine Does.on 14 [5, 6, 7, 8, 9, 10, 11, 12, 13] _ _ (coreStep (m := z) (v := v) hw hv t' (fun hc v' hv' => ?_) fun hc v' hv' => ?_)
    · obtain ⟨_, hk1, hc1, hk2⟩ : (stepZ z t').1 = 0 ∧ (stepZ z t').2.k = z.k + 1 ∧ canZ z t' = true ∧ z.k < 20000 := by
        rcases hC with ⟨_, h⟩ | ⟨h, _⟩
        · exact ⟨hc, h⟩
        · exact absurd hc h
      have q1 : (((stepZ z t').2.k : Int) == IntKind.i64.wrap ((z.k : Int) + 1)) = true := by rw [wk, hk1]; simp
      have q3 : decide ((z.k : Int) < 20000) = true := by simp; omega
      change Does Tryz.prog 14 _ _ _
      refine Does.on 14 [5, 6, 7, 8, 9, 10, 11, 12, 13] _ _ (coreAt (m := (stepZ z t').2) (v := v') hw' o' (fun _ => ?_) (fun h => absurd h (by rw [hA1]; exact hr)) fun h => absurd h (by rw [hA1]; exact hr))
      rw [hc1]
      refine SS.drawR follows (by decide) ?_
      change Does Tryz.prog 15 _ _ _
      refine Does.on 14 [5, 6, 7, 8, 9, 10, 11, 12, 13] _ _ (coreSteps (m := (stepZ z t').2) (v := v') ?_)
      repeat' (first | refine And.intro rfl ?_ | fail)
      refine brc_intro (fun _ => ?_) (fun h => ?_)
      · repeat' (first | refine And.intro rfl ?_ | fail)
        change Does Tryz.prog 15 _ _ _
        refine Does.on 14 [5, 6, 7, 8, 9, 10, 11, 12, 13] _ _ (coreSteps (m := (stepZ z t').2) (v := v') ?_)
        repeat' (first | refine And.intro rfl ?_ | fail)
        refine fin ?_
        rw [q1]; rfl
      · exfalso
        rw [q1, q3] at h
        cases h
    · rcases hC with ⟨h, hk1, hc1, hk2⟩ | ⟨_, h13, hk1, hk2⟩
      · have hc : (stepZ z t').1 = 13 := h.resolve_left hc
        have q1 : (((stepZ z t').2.k : Int) == IntKind.i64.wrap ((z.k : Int) + 1)) = true := by rw [wk, hk1]; simp
        have q2 : ((stepZ z t').1 == 13) = true := by simp [hc]
        have q3 : decide ((z.k : Int) < 20000) = true := by simp; omega
        change Does Tryz.prog 14 _ _ _
        refine Does.on 14 [5, 6, 7, 8, 9, 10, 11, 12, 13] _ _ (coreAt (m := (stepZ z t').2) (v := v') hw' o' (fun _ => ?_) (fun h => absurd h (by rw [hA1]; exact hr)) fun h => absurd h (by rw [hA1]; exact hr))
        rw [hc1]
        refine SS.drawR follows (by decide) ?_
        change Does Tryz.prog 15 _ _ _
        refine Does.on 14 [5, 6, 7, 8, 9, 10, 11, 12, 13] _ _ (coreSteps (m := (stepZ z t').2) (v := v') ?_)
        repeat' (first | refine And.intro rfl ?_ | fail)
        refine brc_intro (fun _ => ?_) (fun h => ?_)
        · repeat' (first | refine And.intro rfl ?_ | fail)
          change Does Tryz.prog 18 _ _ _
          refine Does.on 14 [3] _ _ (tellErrno (stepZ z t').1 ?_)
          repeat' (first | refine And.intro rfl ?_ | fail)
          change Does Tryz.prog 15 _ _ _
          refine Does.on 14 [5, 6, 7, 8, 9, 10, 11, 12, 13] _ _ (coreSteps (m := (stepZ z t').2) (v := v') ?_)
          repeat' (first | refine And.intro rfl ?_ | fail)
          refine fin ?_
          rw [q1, q2]; rfl
        · exfalso
          rw [q1, q3] at h
          cases h
      · have hc : (stepZ z t').1 ≠ 13 := h13
        cases hc1 : canZ z t' with
        | false =>
          have q1 : (((stepZ z t').2.k : Int) == IntKind.i64.wrap ((z.k : Int) + 1)) = false := by rw [wk, hk1]; simp; omega
          have q2 : ((stepZ z t').1 == 13) = false := by simp [hc]
          change Does Tryz.prog 14 _ _ _
          refine Does.on 14 [5, 6, 7, 8, 9, 10, 11, 12, 13] _ _ (coreAt (m := (stepZ z t').2) (v := v') hw' o' (fun _ => ?_) (fun h => absurd h (by rw [hA1]; exact hr)) fun h => absurd h (by rw [hA1]; exact hr))
          refine SS.drawR follows (by decide) ?_
          change Does Tryz.prog 15 _ _ _
          refine Does.on 14 [5, 6, 7, 8, 9, 10, 11, 12, 13] _ _ (coreSteps (m := (stepZ z t').2) (v := v') ?_)
          repeat' (first | refine And.intro rfl ?_ | fail)
          refine brc_intro (fun _ => ?_) (fun h => ?_)
          · repeat' (first | refine And.intro rfl ?_ | fail)
            change Does Tryz.prog 18 _ _ _
            refine Does.on 14 [3] _ _ (tellErrno (stepZ z t').1 ?_)
            repeat' (first | refine And.intro rfl ?_ | fail)
            change Does Tryz.prog 15 _ _ _
            refine Does.on 14 [5, 6, 7, 8, 9, 10, 11, 12, 13] _ _ (coreSteps (m := (stepZ z t').2) (v := v') ?_)
            repeat' (first | refine And.intro rfl ?_ | fail)
            refine fin ?_
            rw [q1, q2]; rfl
          · exfalso
            rw [q1] at h
            cases h
        | true =>
          have hk2 : ¬ z.k < 20000 := hk2.resolve_left (by rw [hc1]; decide)
          have q1 : (((stepZ z t').2.k : Int) == IntKind.i64.wrap ((z.k : Int) + 1)) = false := by rw [wk, hk1]; simp; omega
          have q2 : ((stepZ z t').1 == 13) = false := by simp [hc]
          have q3 : decide ((z.k : Int) < 20000) = false := by simp; omega
          change Does Tryz.prog 14 _ _ _
          refine Does.on 14 [5, 6, 7, 8, 9, 10, 11, 12, 13] _ _ (coreAt (m := (stepZ z t').2) (v := v') hw' o' (fun _ => ?_) (fun h => absurd h (by rw [hA1]; exact hr)) fun h => absurd h (by rw [hA1]; exact hr))
          refine SS.drawR follows (by decide) ?_
          change Does Tryz.prog 15 _ _ _
          refine Does.on 14 [5, 6, 7, 8, 9, 10, 11, 12, 13] _ _ (coreSteps (m := (stepZ z t').2) (v := v') ?_)
          repeat' (first | refine And.intro rfl ?_ | fail)
          refine brc_intro (fun _ => ?_) (fun h => ?_)
          · repeat' (first | refine And.intro rfl ?_ | fail)
            change Does Tryz.prog 18 _ _ _
            refine Does.on 14 [3] _ _ (tellErrno (stepZ z t').1 ?_)
            repeat' (first | refine And.intro rfl ?_ | fail)
            change Does Tryz.prog 15 _ _ _
            refine Does.on 14 [5, 6, 7, 8, 9, 10, 11, 12, 13] _ _ (coreSteps (m := (stepZ z t').2) (v := v') ?_)
            repeat' (first | refine And.intro rfl ?_ | fail)
            refine fin ?_
            rw [q1, q2]; rfl
          · exfalso
            rw [q1, q3] at h
            cases h

end Go.Mac
