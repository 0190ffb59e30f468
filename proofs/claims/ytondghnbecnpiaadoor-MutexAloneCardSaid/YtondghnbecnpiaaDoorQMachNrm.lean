/- The machine of threads without its clock: what a step does asks no clock. -/
import Derived.Test.YtondghnbecnpiaaDoorQMachWF
open Go Go.Proofs Go.Mac
namespace Go.Mac

/-- All but the clock, and what was noted of cells. -/
def nrm (m : MZ) : MZ := { m with k := 0, al := [], el := m.el.map fun e => { e with w := 0 } }

theorem far_nrm (m : MZ) (t : Nat) (x : ThZ) (i : InsZ) : (farZ m t x i).map nrm = (farZ (nrm m) t x i).map nrm := by
  unfold farZ
  by_cases h6 : i.op = 6
  · rw [if_pos h6, if_pos h6]; simp [nrm, MZ.act, MZ.th, Function.comp_def]
  rw [if_neg h6, if_neg h6]
  by_cases h8 : i.op = 8
  · rw [if_pos h8, if_pos h8]; simp [nrm, MZ.act, MZ.th, Function.comp_def]
  rw [if_neg h8, if_neg h8]
  by_cases h9 : i.op = 9
  · rw [if_pos h9, if_pos h9]
    show Option.map nrm (if rgZ m.ws i.b = rgZ x.rg i.c then _ else _) = Option.map nrm (if rgZ m.ws i.b = rgZ x.rg i.c then _ else _)
    split <;> simp [nrm, MZ.act, MZ.th, Function.comp_def]
  rw [if_neg h9, if_neg h9]
  by_cases h14 : i.op = 14
  · rw [if_pos h14, if_pos h14]
    show some (nrm (if rgZ m.ws i.a = rgZ x.rg i.b then _ else _)) = some (nrm (if rgZ m.ws i.a = rgZ x.rg i.b then _ else _))
    split <;> simp [nrm, Function.comp_def]
  rw [if_neg h14, if_neg h14]
  by_cases h16 : i.op = 16
  · rw [if_pos h16, if_pos h16]; simp [nrm, Function.comp_def]
  rw [if_neg h16, if_neg h16]
  cases offZ x i with
  | none => rfl
  | some c =>
    dsimp only
    show Option.map nrm (if c < m.nc then _ else _) = Option.map nrm (if c < m.nc then _ else _)
    split
    · split <;> simp [nrm, MZ.act, Function.comp_def]
    · rfl

theorem step_nrm (m : MZ) (t : Int) (hk : m.k ≠ 20000) : nrm (stepZ m t).2 = nrm (stepZ (nrm m) t).2 ∧ (stepZ m t).1 = (stepZ (nrm m) t).1 := by
  have nn : nrm (nrm m) = nrm m := by simp [nrm, Function.comp_def]
  by_cases h1 : t < 0 ∨ (m.ts.length : Int) ≤ t
  · have e1 : stepZ m t = (2, m) := if_pos h1
    have e2 : stepZ (nrm m) t = (2, nrm m) := if_pos h1
    rw [e1, e2]
    exact ⟨nn.symm, rfl⟩
  by_cases h2 : (thZ m t.toNat).dn = true
  · have e1 : stepZ m t = (6, m) := (if_neg h1).trans (if_pos h2)
    have e2 : stepZ (nrm m) t = (6, nrm m) := (if_neg (show ¬ (t < 0 ∨ ((nrm m).ts.length : Int) ≤ t) from h1)).trans (if_pos (show (thZ (nrm m) t.toNat).dn = true from h2))
    rw [e1, e2]
    exact ⟨nn.symm, rfl⟩
  by_cases h3 : asleepZ m t = true
  · have e1 : stepZ m t = (8, m) := (if_neg h1).trans ((if_neg h2).trans (if_pos h3))
    have e2 : stepZ (nrm m) t = (8, nrm m) := (if_neg (show ¬ (t < 0 ∨ ((nrm m).ts.length : Int) ≤ t) from h1)).trans ((if_neg (show ¬ (thZ (nrm m) t.toNat).dn = true from h2)).trans (if_pos (show asleepZ (nrm m) t = true from h3)))
    rw [e1, e2]
    exact ⟨nn.symm, rfl⟩
  have e1 : stepZ m t = goZ m t.toNat := (if_neg h1).trans ((if_neg h2).trans ((if_neg h3).trans (if_neg hk)))
  have e2 : stepZ (nrm m) t = goZ (nrm m) t.toNat := (if_neg (show ¬ (t < 0 ∨ ((nrm m).ts.length : Int) ≤ t) from h1)).trans ((if_neg (show ¬ (thZ (nrm m) t.toNat).dn = true from h2)).trans ((if_neg (show ¬ asleepZ (nrm m) t = true from h3)).trans (if_neg (show ¬ (nrm m).k = 20000 by simp [nrm]))))
  rw [e1, e2]
  rw [goZ, goZ, show insZ (nrm m) t.toNat = insZ m t.toNat from rfl, show thZ (nrm m) t.toNat = thZ m t.toNat from rfl, doZ, doZ]
  cases localZ { thZ m t.toNat with pc := (thZ m t.toNat).pc + 1 } (insZ m t.toNat (thZ m t.toNat).pc) with
  | some x => exact ⟨by simp [nrm, onZ, MZ.th, Function.comp_def, thZ], rfl⟩
  | none =>
    dsimp only
    have h1 := far_nrm (onZ m t.toNat) t.toNat { thZ m t.toNat with pc := (thZ m t.toNat).pc + 1 } (insZ m t.toNat (thZ m t.toNat).pc)
    have h2 := far_nrm (onZ (nrm m) t.toNat) t.toNat { thZ m t.toNat with pc := (thZ m t.toNat).pc + 1 } (insZ m t.toNat (thZ m t.toNat).pc)
    have e : nrm (onZ m t.toNat) = nrm (onZ (nrm m) t.toNat) := by simp [nrm, onZ, MZ.th, Function.comp_def, thZ]
    rw [e, ← h2] at h1
    cases hf : farZ (onZ m t.toNat) t.toNat { thZ m t.toNat with pc := (thZ m t.toNat).pc + 1 } (insZ m t.toNat (thZ m t.toNat).pc) with
    | none =>
      rw [hf] at h1
      cases hg : farZ (onZ (nrm m) t.toNat) t.toNat { thZ m t.toNat with pc := (thZ m t.toNat).pc + 1 } (insZ m t.toNat (thZ m t.toNat).pc) with
      | none => exact ⟨by simp [nrm, onZ, MZ.th, Function.comp_def, thZ], rfl⟩
      | some y => rw [hg] at h1; cases h1
    | some z =>
      rw [hf] at h1
      cases hg : farZ (onZ (nrm m) t.toNat) t.toNat { thZ m t.toNat with pc := (thZ m t.toNat).pc + 1 } (insZ m t.toNat (thZ m t.toNat).pc) with
      | none => rw [hg] at h1; cases h1
      | some y =>
        rw [hg] at h1
        exact ⟨Option.some.inj h1, rfl⟩

/-- What of a machine tells what it does next. -/
abbrev Cfg : Type := List (Nat × List Int × Bool) × List Int × List (Int × Int) × List (Int × Int × Int)

def enc (m : MZ) : Cfg := (m.ts.map fun x => (x.pc, x.rg, x.dn), m.ws, m.ss.map fun s => (s.t, s.c), m.el.map fun e => (e.a, e.t, e.v))
def dec (ps : List (List InsZ)) (nc : Nat) (c : Cfg) : MZ := ⟨ps, c.1.map fun x => ⟨x.1, x.2.1, x.2.2⟩, c.2.1, c.2.2.1.map fun s => ⟨s.1, s.2⟩, [], c.2.2.2.map fun e => ⟨0, e.1, e.2.1, e.2.2⟩, 0, nc⟩
def stepC (ps : List (List InsZ)) (nc : Nat) (c : Cfg) (t : Int) : Cfg := enc (stepZ (dec ps nc c) t).2

theorem dec_enc (m : MZ) : dec m.ps m.nc (enc m) = nrm m := by
  simp [dec, enc, nrm, Function.comp_def]

theorem enc_nrm (m : MZ) : enc (nrm m) = enc m := by
  simp [enc, nrm, Function.comp_def]

theorem enc_step (m : MZ) (t : Int) (hk : m.k ≠ 20000) : enc (stepZ m t).2 = stepC m.ps m.nc (enc m) t := by
  rw [stepC, dec_enc, ← enc_nrm (stepZ m t).2, (step_nrm m t hk).1, enc_nrm]

theorem far_ps {m m' : MZ} {t : Nat} {x : ThZ} {i : InsZ} (h : farZ m t x i = some m') : m'.ps = m.ps ∧ m'.nc = m.nc := by
  unfold farZ at h
  repeat' (split at h)
  all_goals first | (obtain rfl := Option.some.inj h; first | exact ⟨rfl, rfl⟩ | (split <;> exact ⟨rfl, rfl⟩)) | cases h

theorem step_ps (m : MZ) (t : Int) : (stepZ m t).2.ps = m.ps ∧ (stepZ m t).2.nc = m.nc := by
  unfold stepZ
  repeat (split; · exact ⟨rfl, rfl⟩)
  rw [goZ, doZ]
  split
  · exact ⟨rfl, rfl⟩
  · split
    · rename_i m' hf
      have := far_ps hf
      exact this
    · exact ⟨rfl, rfl⟩

end Go.Mac
