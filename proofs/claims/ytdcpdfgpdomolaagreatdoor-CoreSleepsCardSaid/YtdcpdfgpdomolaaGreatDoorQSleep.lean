/- Who sleeps does so behind its Wait. -/
import Derived.Test.YtdcpdfgpdomolaaGreatDoorQSys
open Go Go.Proofs Go.Mac
set_option maxRecDepth 100000
namespace Go.Mac

def SleepOk (m : MZ) : Prop := ∀ s ∈ m.ss, ∃ (t : Nat) (x : ThZ) (p : List InsZ) (i : InsZ), s.t = t ∧ m.ts[t]? = some x ∧ m.ps[t]? = some p ∧ x.dn = false ∧ 1 ≤ x.pc ∧ p[x.pc - 1]? = some i ∧ i.op = 14 ∧ i.a = s.c

theorem far_ss {m : MZ} {t : Nat} {x : ThZ} {i : InsZ} {m' : MZ} (h : farZ m t x i = some m') :
    m'.ps = m.ps ∧ (∀ s, s ≠ t → m'.ts[s]? = m.ts[s]?) ∧ ∀ s ∈ m'.ss, s ∈ m.ss ∨ (i.op = 14 ∧ s = ⟨t, i.a⟩ ∧ m'.ts = m.ts) := by
  rw [farZ] at h
  split at h
  · obtain rfl := Option.some.inj h
    exact ⟨rfl, fun s hs => List.getElem?_set_ne hs.symm, fun s hs => .inl hs⟩
  split at h
  · obtain rfl := Option.some.inj h
    exact ⟨rfl, fun s hs => List.getElem?_set_ne hs.symm, fun s hs => .inl hs⟩
  split at h
  · split at h
    · obtain rfl := Option.some.inj h
      exact ⟨rfl, fun s hs => List.getElem?_set_ne hs.symm, fun s hs => .inl hs⟩
    · obtain rfl := Option.some.inj h
      exact ⟨rfl, fun s hs => List.getElem?_set_ne hs.symm, fun s hs => .inl hs⟩
  split at h
  · rename_i h14
    split at h
    · obtain rfl := Option.some.inj h
      refine ⟨rfl, fun _ _ => rfl, fun s hs => ?_⟩
      rcases List.mem_append.1 hs with hs | hs
      · exact .inl hs
      · exact .inr ⟨h14, by simpa using hs, rfl⟩
    · obtain rfl := Option.some.inj h
      exact ⟨rfl, fun _ _ => rfl, fun s hs => .inl hs⟩
  split at h
  · obtain rfl := Option.some.inj h
    exact ⟨rfl, fun _ _ => rfl, fun s hs => .inl hs⟩
  split at h
  · cases h
  split at h
  · split at h
    · obtain rfl := Option.some.inj h
      exact ⟨rfl, fun _ _ => rfl, fun s hs => .inl ((wakeL_mem _ _ _ _).subset hs)⟩
    · obtain rfl := Option.some.inj h
      exact ⟨rfl, fun _ _ => rfl, fun s hs => .inl hs⟩
  · cases h

theorem SleepOk.step {m : MZ} (hw : WF m) (h : SleepOk m) (t : Int) : SleepOk (stepZ m t).2 := by
  rcases step_or hw t with e | ⟨u, rfl, hc, hk⟩
  · rw [e]; exact h
  obtain ⟨x, hx, hd, hno⟩ := can_out hc
  have hlt := (List.getElem?_eq_some_iff.1 hx).1
  obtain ⟨p, hp⟩ : ∃ p, m.ps[u]? = some p := ⟨_, List.getElem?_eq_getElem (by have := hw.ps; omega)⟩
  have hpc := (hw.pc u x p hx hp).2 hd
  obtain ⟨i, hi⟩ : ∃ i, p[x.pc]? = some i := ⟨_, List.getElem?_eq_getElem (by omega)⟩
  rw [can_go hc hk hx hp hi]
  -- the machine ahead of the instruction
  have old : ∀ {m' : MZ}, m'.ps = m.ps → (∀ s, s ≠ u → m'.ts[s]? = m.ts[s]?) → ∀ s ∈ m.ss, ∃ (t : Nat) (x : ThZ) (p : List InsZ) (i : InsZ), s.t = t ∧ m'.ts[t]? = some x ∧ m'.ps[t]? = some p ∧ x.dn = false ∧ 1 ≤ x.pc ∧ p[x.pc - 1]? = some i ∧ i.op = 14 ∧ i.a = s.c := fun e1 e2 s hs => by
    obtain ⟨t, x, p, i, h1, h2, h3⟩ := h s hs
    have hne : t ≠ u := fun e => hno s hs (by rw [h1, e])
    exact ⟨t, x, p, i, h1, by rw [e2 t hne]; exact h2, by rw [e1]; exact h3⟩
  have hset : ∀ (y : ThZ) (s : Nat), s ≠ u → (m.ts.set u y)[s]? = m.ts[s]? := fun y s hs => List.getElem?_set_ne hs.symm
  rw [doZ]
  split
  · intro s hs
    refine old ?_ (fun s hs => ?_) s hs
    · rfl
    show ((m.ts.set u _).set u _)[s]? = _
    rw [List.getElem?_set_ne hs.symm, List.getElem?_set_ne hs.symm]
  split
  · rename_i m' hf
    obtain ⟨e1, e2, e3⟩ := far_ss hf
    intro s hs
    rcases e3 s hs with h3 | ⟨h14, rfl, hts⟩
    · exact old e1 (fun s hs => (e2 s hs).trans (hset _ s hs)) s h3
    · refine ⟨u, { x with pc := x.pc + 1 }, p, i, rfl, ?_, ?_, hd, by show 1 ≤ x.pc + 1; omega, hi, h14, rfl⟩
      · rw [hts]
        show (m.ts.set u _)[u]? = _
        rw [List.getElem?_set_self hlt]
      · rw [e1]; exact hp
  · intro s hs
    refine old ?_ (fun s hs => ?_) s hs
    · rfl
    show ((m.ts.set u _).set u _)[s]? = _
    rw [List.getElem?_set_ne hs.symm, List.getElem?_set_ne hs.symm]

theorem moves_ps : ∀ (l : List MoveZ) (m : MZ), (movesZ m l).ps = m.ps
  | [], _ => rfl
  | x :: l, m => (moves_ps l (moveZ m x)).trans (by
    rw [moveZ]
    split
    · rfl
    · exact (step_ps m x.th).1)

theorem SleepOk.poke {m : MZ} (h : SleepOk m) (t : Int) : SleepOk (pokeZ m t) := fun s hs => h s (List.mem_filter.1 hs).1

theorem SleepOk.moves {m : MZ} (hw : WF m) (h : SleepOk m) (l : List MoveZ) : SleepOk (movesZ m l) := by
  have := moves_inv (P := fun _ m => WF m ∧ SleepOk m) (fun _ m t h => ⟨by
    have := h.1.move ⟨t, false⟩
    exact this, h.2.step h.1 t⟩) (fun _ m t h => ⟨h.1.poke t, h.2.poke t⟩) l 0 m ⟨hw, h⟩
  exact this.2

end Go.Mac
