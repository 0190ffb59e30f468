/- Texts that belong together; the first of them: The machine of threads: a thread woken for nothing, and moves. -/
import Derived.Test.YtlimhldkkbaohaaGreatDoorGMachB

/- The machine of threads: a thread woken for nothing, and moves. -/
section
open Go Go.Proofs Go.Mac
set_option maxRecDepth 100000
namespace Go.Mac

/-- A thread is woken for nothing. -/
def pokeZ (m : MZ) (t : Int) : MZ := { m with ss := m.ss.filter fun s => s.t != t }
def moveZ (m : MZ) (x : MoveZ) : MZ := if x.pk = true then pokeZ m x.th else (stepZ m x.th).2
def movesZ (m : MZ) (l : List MoveZ) : MZ := l.foldl moveZ m

theorem movesZ_take (m : MZ) (l : List MoveZ) (i : Nat) (x : MoveZ) (h : l[i]? = some x) : movesZ m (l.take (i + 1)) = moveZ (movesZ m (l.take i)) x := by
  rw [movesZ, List.take_add_one, h, List.foldl_append]
  rfl

theorem filter_noT {ss : List Slp} {t : Int} (h : noT ss t) : ss.filter (fun s => s.t != t) = ss := List.filter_eq_self.2 fun s hs => by simpa using h s hs

theorem WF.poke {m : MZ} (hw : WF m) (t : Int) : WF (pokeZ m t) :=
  hw.sleepers (hw.ss.1.sublist (List.filter_sublist.map _)) (fun s hs => hw.ss.2 s (List.mem_filter.1 hs).1) (Nat.le_trans (List.length_filter_le _ _) hw.sl)

theorem WF.move {m : MZ} (hw : WF m) (x : MoveZ) : WF (moveZ m x) := by
  rw [moveZ]
  split
  · exact hw.poke _
  · exact hw.step _

theorem WF.moves {m : MZ} (hw : WF m) (l : List MoveZ) : WF (movesZ m l) := by
  induction l generalizing m with
  | nil => exact hw
  | cons x l ih => exact ih (hw.move x)

section
variable {K : AV → List Nat → List PO → Prop} {m : MZ} {v : VZ}

theorem lotPoke2 {n : Int} {k : Nat} {nn : Bool} {ss ex : List Slp} (t : Int) (hk : ss.length = k) (hn : k < 1000000) (hr : ∀ s ∈ ss, 0 ≤ s.t ∧ s.t < n)
    (h1 : ∀ (pre post : List Slp) (x : Slp), ss = pre ++ x :: post → x.t = t → noT pre t → K (cv .niliface) [] (lotH n (pre.length + post.length) true (pre ++ post) (⟨0, 0⟩ :: ex)))
    (h0 : noT ss t → ∀ e : Int, K (.p (errP e)) [] (lotH n k nn ss ex)) :
    Does Tryz.prog 61 [cv (.ptr 0 0), i64 t] (lotH n k nn ss ex) K := by
  by_cases ht : 0 ≤ t ∧ t < n
  · exact lotPoke t ht hk hn h1 fun h => h0 h 6
  · have hno : noT ss t := fun s hs e => ht (e ▸ hr s hs)
    refine does Tryz.func61 rfl (by decide) ?_
    refine brc_intro (fun h => h0 hno 2) (fun h => ?_)
    have h := of_decide_eq_false h
    refine brc_intro (fun h2 => h0 hno 2) (fun h2 => ?_)
    have h2 := of_decide_eq_false h2
    omega

theorem corePoke (hw : WF m) (hv : okV v) (t : Int) (h0 : ∀ v', okV v' → K (cv .niliface) [] (machH (pokeZ m t) v')) (h1 : ∀ e v', okV v' → K (errC e) [] (machH (pokeZ m t) v')) :
    Does Tryz.prog 33 [cv (.ptr 0 0), i64 t] (machH m v) K := by
  have hps := hw.ps
  have hlen := hw.len_ss
  refine does Tryz.func33 rfl (by decide) ?_
  change Does Tryz.prog 61 _ _ _
  refine Does.on 9 [5, 6] _ _ (lotPoke2 (n := m.ps.length) (k := m.ss.length) (nn := v.nl) (ss := m.ss) (ex := v.ex) t rfl (by omega) (fun s hs => by have := hw.ss.2 s hs; omega) (fun pre post x hs hx hno => ?_) fun hno e => ?_)
  · have hnd := hw.ss.1
    have hpost : noT post t := fun s hs' e => by
      rw [hs, List.map_append, List.map_cons, List.nodup_append, List.nodup_cons] at hnd
      exact hnd.2.1.1 (List.mem_map.2 ⟨s, hs', e.trans hx.symm⟩)
    have e : m.ss.filter (fun s => s.t != t) = pre ++ post := by
      rw [hs, List.filter_append, List.filter_cons_of_neg (by simp [hx]), filter_noT hno, filter_noT hpost]
    have := h0 { v with nl := true, ex := ⟨0, 0⟩ :: v.ex } (fun _ => rfl)
    rw [pokeZ, e] at this
    rw [← List.length_append]
    exact this
  · have := h1 e v hv
    rw [pokeZ, filter_noT hno] at this
    exact this

end
end Go.Mac
end

/- The machine of threads without its clock: what a step does asks no clock. -/
section
open Go Go.Proofs Go.Mac
namespace Go.Mac

/-- All but the clock, and what was noted of cells. -/
def nrm (m : MZ) : MZ := { m with k := 0, al := [], el := m.el.map fun e => { e with w := 0 } }

theorem far_nrm (m : MZ) (t : Nat) (x : ThZ) (i : InsZ) : (farZ m t x i).map nrm = (farZ (nrm m) t x i).map nrm := by
  unfold farZ
  by_cases h6 : i.op = 6
  · rw [if_pos h6, if_pos h6]; simp [nrm, MZ.act, MZ.th, Function.comp_def]
  rw [if_neg h6, if_neg h6]
  by_cases h8 : i.op = 8
  · rw [if_pos h8, if_pos h8]; simp [nrm, MZ.act, MZ.th, Function.comp_def]
  rw [if_neg h8, if_neg h8]
  by_cases h9 : i.op = 9
  · rw [if_pos h9, if_pos h9]
    show Option.map nrm (if rgZ m.ws i.b = rgZ x.rg i.c then _ else _) = Option.map nrm (if rgZ m.ws i.b = rgZ x.rg i.c then _ else _)
    split <;> simp [nrm, MZ.act, MZ.th, Function.comp_def]
  rw [if_neg h9, if_neg h9]
  by_cases h14 : i.op = 14
  · rw [if_pos h14, if_pos h14]
    show some (nrm (if rgZ m.ws i.a = rgZ x.rg i.b then _ else _)) = some (nrm (if rgZ m.ws i.a = rgZ x.rg i.b then _ else _))
    split <;> simp [nrm, Function.comp_def]
  rw [if_neg h14, if_neg h14]
  by_cases h16 : i.op = 16
  · rw [if_pos h16, if_pos h16]; simp [nrm, Function.comp_def]
  rw [if_neg h16, if_neg h16]
  cases offZ x i with
  | none => rfl
  | some c =>
    dsimp only
    show Option.map nrm (if c < m.nc then _ else _) = Option.map nrm (if c < m.nc then _ else _)
    split
    · split <;> simp [nrm, MZ.act, Function.comp_def]
    · rfl

theorem step_nrm (m : MZ) (t : Int) (hk : m.k ≠ 20000) : nrm (stepZ m t).2 = nrm (stepZ (nrm m) t).2 ∧ (stepZ m t).1 = (stepZ (nrm m) t).1 := by
  have nn : nrm (nrm m) = nrm m := by simp [nrm, Function.comp_def]
  by_cases h1 : t < 0 ∨ (m.ts.length : Int) ≤ t
  · have e1 : stepZ m t = (2, m) := if_pos h1
    have e2 : stepZ (nrm m) t = (2, nrm m) := if_pos h1
    rw [e1, e2]
    exact ⟨nn.symm, rfl⟩
  by_cases h2 : (thZ m t.toNat).dn = true
  · have e1 : stepZ m t = (6, m) := (if_neg h1).trans (if_pos h2)
    have e2 : stepZ (nrm m) t = (6, nrm m) := (if_neg (show ¬ (t < 0 ∨ ((nrm m).ts.length : Int) ≤ t) from h1)).trans (if_pos (show (thZ (nrm m) t.toNat).dn = true from h2))
    rw [e1, e2]
    exact ⟨nn.symm, rfl⟩
  by_cases h3 : asleepZ m t = true
  · have e1 : stepZ m t = (8, m) := (if_neg h1).trans ((if_neg h2).trans (if_pos h3))
    have e2 : stepZ (nrm m) t = (8, nrm m) := (if_neg (show ¬ (t < 0 ∨ ((nrm m).ts.length : Int) ≤ t) from h1)).trans ((if_neg (show ¬ (thZ (nrm m) t.toNat).dn = true from h2)).trans (if_pos (show asleepZ (nrm m) t = true from h3)))
    rw [e1, e2]
    exact ⟨nn.symm, rfl⟩
  have e1 : stepZ m t = goZ m t.toNat := (if_neg h1).trans ((if_neg h2).trans ((if_neg h3).trans (if_neg hk)))
  have e2 : stepZ (nrm m) t = goZ (nrm m) t.toNat := (if_neg (show ¬ (t < 0 ∨ ((nrm m).ts.length : Int) ≤ t) from h1)).trans ((if_neg (show ¬ (thZ (nrm m) t.toNat).dn = true from h2)).trans ((if_neg (show ¬ asleepZ (nrm m) t = true from h3)).trans (if_neg (show ¬ (nrm m).k = 20000 by simp [nrm]))))
  rw [e1, e2]
  rw [goZ, goZ, show insZ (nrm m) t.toNat = insZ m t.toNat from rfl, show thZ (nrm m) t.toNat = thZ m t.toNat from rfl, doZ, doZ]
  cases localZ { thZ m t.toNat with pc := (thZ m t.toNat).pc + 1 } (insZ m t.toNat (thZ m t.toNat).pc) with
  | some x => exact ⟨by simp [nrm, onZ, MZ.th, Function.comp_def, thZ], rfl⟩
  | none =>
    dsimp only
    have h1 := far_nrm (onZ m t.toNat) t.toNat { thZ m t.toNat with pc := (thZ m t.toNat).pc + 1 } (insZ m t.toNat (thZ m t.toNat).pc)
    have h2 := far_nrm (onZ (nrm m) t.toNat) t.toNat { thZ m t.toNat with pc := (thZ m t.toNat).pc + 1 } (insZ m t.toNat (thZ m t.toNat).pc)
    have e : nrm (onZ m t.toNat) = nrm (onZ (nrm m) t.toNat) := by simp [nrm, onZ, MZ.th, Function.comp_def, thZ]
    rw [e, ← h2] at h1
    cases hf : farZ (onZ m t.toNat) t.toNat { thZ m t.toNat with pc := (thZ m t.toNat).pc + 1 } (insZ m t.toNat (thZ m t.toNat).pc) with
    | none =>
      rw [hf] at h1
      cases hg : farZ (onZ (nrm m) t.toNat) t.toNat { thZ m t.toNat with pc := (thZ m t.toNat).pc + 1 } (insZ m t.toNat (thZ m t.toNat).pc) with
      | none => exact ⟨by simp [nrm, onZ, MZ.th, Function.comp_def, thZ], rfl⟩
      | some y => rw [hg] at h1; cases h1
    | some z =>
      rw [hf] at h1
      cases hg : farZ (onZ (nrm m) t.toNat) t.toNat { thZ m t.toNat with pc := (thZ m t.toNat).pc + 1 } (insZ m t.toNat (thZ m t.toNat).pc) with
      | none => rw [hg] at h1; cases h1
      | some y =>
        rw [hg] at h1
        exact ⟨Option.some.inj h1, rfl⟩

/-- What of a machine tells what it does next. -/
abbrev Cfg : Type := List (Nat × List Int × Bool) × List Int × List (Int × Int) × List (Int × Int × Int)

def enc (m : MZ) : Cfg := (m.ts.map fun x => (x.pc, x.rg, x.dn), m.ws, m.ss.map fun s => (s.t, s.c), m.el.map fun e => (e.a, e.t, e.v))
def dec (ps : List (List InsZ)) (nc : Nat) (c : Cfg) : MZ := ⟨ps, c.1.map fun x => ⟨x.1, x.2.1, x.2.2⟩, c.2.1, c.2.2.1.map fun s => ⟨s.1, s.2⟩, [], c.2.2.2.map fun e => ⟨0, e.1, e.2.1, e.2.2⟩, 0, nc⟩
def stepC (ps : List (List InsZ)) (nc : Nat) (c : Cfg) (t : Int) : Cfg := enc (stepZ (dec ps nc c) t).2

theorem dec_enc (m : MZ) : dec m.ps m.nc (enc m) = nrm m := by
  simp [dec, enc, nrm, Function.comp_def]

theorem enc_nrm (m : MZ) : enc (nrm m) = enc m := by
  simp [enc, nrm, Function.comp_def]

theorem enc_step (m : MZ) (t : Int) (hk : m.k ≠ 20000) : enc (stepZ m t).2 = stepC m.ps m.nc (enc m) t := by
  rw [stepC, dec_enc, ← enc_nrm (stepZ m t).2, (step_nrm m t hk).1, enc_nrm]

theorem far_ps {m m' : MZ} {t : Nat} {x : ThZ} {i : InsZ} (h : farZ m t x i = some m') : m'.ps = m.ps ∧ m'.nc = m.nc := by
  unfold farZ at h
  repeat' (split at h)
  all_goals first | (obtain rfl := Option.some.inj h; first | exact ⟨rfl, rfl⟩ | (split <;> exact ⟨rfl, rfl⟩)) | cases h

theorem step_ps (m : MZ) (t : Int) : (stepZ m t).2.ps = m.ps ∧ (stepZ m t).2.nc = m.nc := by
  unfold stepZ
  repeat (split; · exact ⟨rfl, rfl⟩)
  rw [goZ, doZ]
  split
  · exact ⟨rfl, rfl⟩
  · split
    · rename_i m' hf
      have := far_ps hf
      exact this
    · exact ⟨rfl, rfl⟩

end Go.Mac
end

/- fair.Finish: all go on, one behind the other, over and over, till none can. -/
section
open Go Go.Proofs Go.Mac
set_option maxRecDepth 100000
namespace Go.Mac

/-- One thread more of a round: it goes on, if it can. -/
def sweepS (p : MZ × Bool) (t : Nat) : MZ × Bool := if canZ p.1 (t : Int) = true ∧ p.1.k < 20000 then ((stepZ p.1 (t : Int)).2, true) else p
/-- The first threads of a round. -/
def sweepN (m : MZ) (n : Nat) : MZ × Bool := (List.range n).foldl sweepS (m, false)

theorem sweepN_succ (m : MZ) (n : Nat) : sweepN m (n + 1) = sweepS (sweepN m n) n := by
  rw [sweepN, List.range_succ, List.foldl_append]
  rfl

/-- Round by round, till none can go on. -/
def finZ : Nat → MZ → MZ
  | 0, m => m
  | f + 1, m => if (sweepN m m.ts.length).2 = true then finZ f (sweepN m m.ts.length).1 else (sweepN m m.ts.length).1

theorem can_step {m : MZ} {t : Nat} (h : canZ m (t : Int) = true) (hk : m.k < 20000) : (stepZ m (t : Int)).2.k = m.k + 1 := by
  simp only [canZ, Bool.and_eq_true, decide_eq_true_eq, Bool.not_eq_true', Int.toNat_natCast] at h
  have e : stepZ m (t : Int) = goZ m (t : Int).toNat := (if_neg (by omega)).trans ((if_neg (by rw [Int.toNat_natCast, h.1.2]; decide)).trans ((if_neg (by rw [h.2]; decide)).trans (if_neg (by omega))))
  rw [e, goZ, doZ]
  split
  · rfl
  · split
    · rename_i m' hf
      have : ∀ (m m' : MZ) (t : Nat) (x : ThZ) (i : InsZ), farZ m t x i = some m' → m'.k = m.k := by
        intro m m' t x i hf
        unfold farZ at hf
        repeat' (split at hf)
        all_goals first | (obtain rfl := Option.some.inj hf; first | rfl | (split <;> rfl)) | cases hf
      rw [this _ _ _ _ _ hf]
      rfl
    · rfl

/-- What a round leaves as it was. -/
structure Swept (m m' : MZ) (b : Bool) : Prop where
  wf : WF m'
  n : m'.ts.length = m.ts.length
  ps : m'.ps = m.ps
  nc : m'.nc = m.nc
  k : m.k ≤ m'.k
  up : b = true → m.k < m'.k

theorem step_ts (m : MZ) (t : Int) : (stepZ m t).2.ts.length = m.ts.length := by
  have far : ∀ (m m' : MZ) (t : Nat) (x : ThZ) (i : InsZ), farZ m t x i = some m' → m'.ts.length = m.ts.length := by
    intro m m' t x i hf
    unfold farZ at hf
    repeat' (split at hf)
    all_goals first | (obtain rfl := Option.some.inj hf; first | rfl | (split <;> rfl) | simp [MZ.act, MZ.th]) | cases hf
  unfold stepZ
  repeat (split; · rfl)
  rw [goZ, doZ]
  split
  · simp [MZ.th, onZ]
  · split
    · rename_i m' hf
      have := far _ _ _ _ _ hf
      dsimp only
      rw [this]
      simp [onZ, MZ.th]
    · simp [MZ.th, onZ]

theorem sweepN_ok {m : MZ} (hw : WF m) : ∀ n, Swept m (sweepN m n).1 (sweepN m n).2
  | 0 => ⟨hw, rfl, rfl, rfl, Nat.le_refl _, fun h => by cases h⟩
  | n + 1 => by
    have ih := sweepN_ok hw n
    rw [sweepN_succ, sweepS]
    split
    · rename_i h
      have hk := can_step h.1 h.2
      have hle := ih.k
      exact ⟨ih.wf.step _, (step_ts _ _).trans ih.n, (step_ps _ _).1.trans ih.ps, (step_ps _ _).2.trans ih.nc, by dsimp only; omega, fun _ => by dsimp only; omega⟩
    · exact ih

theorem finZ_fuel : ∀ (f g : Nat) (m : MZ), WF m → 20001 ≤ f + m.k → 20001 ≤ g + m.k → finZ f m = finZ g m
  | 0, _, m, hw, h, _ => by have := hw.k; omega
  | _ + 1, 0, m, hw, _, h => by have := hw.k; omega
  | f + 1, g + 1, m, hw, h1, h2 => by
    have hs := sweepN_ok hw m.ts.length
    rw [finZ, finZ]
    by_cases hb : (sweepN m m.ts.length).2 = true
    · rw [if_pos hb, if_pos hb]
      have := hs.up hb
      exact finZ_fuel f g _ hs.wf (by omega) (by omega)
    · rw [if_neg hb, if_neg hb]

/-- All go on till none can. -/
def finish (m : MZ) : MZ := finZ 20001 m

theorem finish_step {m : MZ} (hw : WF m) : finish m = if (sweepN m m.ts.length).2 = true then finish (sweepN m m.ts.length).1 else (sweepN m m.ts.length).1 := by
  have hs := sweepN_ok hw m.ts.length
  rw [finish, finZ]
  split
  · rename_i hb
    have := hs.up hb
    exact finZ_fuel _ _ _ hs.wf (by omega) (by omega)
  · rfl

/-- As finish, with so many rounds at most. -/
def fin2 : Nat → MZ → Option MZ
  | 0, _ => none
  | f + 1, m => if (sweepN m m.ts.length).2 = true then fin2 f (sweepN m m.ts.length).1 else some (sweepN m m.ts.length).1

theorem finish_of : ∀ (f : Nat) (m m' : MZ), WF m → fin2 f m = some m' → finish m = m'
  | 0, _, _, _, h => by cases h
  | f + 1, m, m', hw, h => by
    have hs := sweepN_ok hw m.ts.length
    rw [finish_step hw]
    rw [fin2] at h
    by_cases hb : (sweepN m m.ts.length).2 = true
    · rw [if_pos hb] at h ⊢
      exact finish_of f _ _ hs.wf h
    · rw [if_neg hb] at h ⊢
      exact Option.some.inj h

/-- A check of what is left in the end. -/
def finB (f : Nat) (m : MZ) (p : MZ → Bool) : Bool := match fin2 f m with
  | some m' => p m'
  | none => false

theorem finB_ok {f : Nat} {m : MZ} {p : MZ → Bool} (hw : WF m) (h : finB f m p = true) : p (finish m) = true := by
  rw [finB] at h
  split at h
  · rename_i m' e
    rw [finish_of f m m' hw e]
    exact h
  · cases h

section
variable {K : AV → List Nat → List PO → Prop} {m : MZ} {v : VZ}

theorem coreThreads (h : K (i64 m.ps.length) [] (machH m v)) : Does Tryz.prog 32 [cv (.ptr 0 0)] (machH m v) K := by
  refine does Tryz.func32 rfl (by decide) ?_
  exact h

/-- A number that is no literal's neighbour: the kernel would count down to it. -/
theorem coreSteps2 (h : ∀ x : Int, x = m.k → K (i64 x) [] (machH m v)) : Does Tryz.prog 43 [cv (.ptr 0 0)] (machH m v) K := coreSteps (h _ rfl)

theorem fairFinishN (hw : WF m) (hv : okV v) (h : ∀ (v' : VZ) (n : Int), okV v' → WF (finish m) → n = IntKind.i64.wrap (((finish m).k : Int) - m.k) → K (i64 n) [6, 7, 8] (machH (finish m) v')) : Does Tryz.prog 20 [cv (.ptr 0 0)] (machH m v) K := by
  refine does Tryz.func20 rfl (by decide) ?_
  change Does Tryz.prog 43 _ _ _
  refine coreSteps ?_
  refine SS.loop (fun p : MZ × Bool × VZ => WF p.1 ∧ okV p.2.2 ∧ (p.2.1 = true → finish p.1 = finish m) ∧ (p.2.1 = false → p.1 = finish m)) (fun p => [(0, cv (.ptr 0 0)), (3, i64 m.k), (4, bl p.2.1)]) (fun p => machH p.1 p.2.2) (fun p => 2 * (20000 - p.1.k) + if p.2.1 = true then 1 else 0) [6, 7, 8]
    (At.mk' [0, 3, 4] (m, true, v) ⟨hw, hv, fun _ => rfl, fun h => by cases h⟩ ⟨rfl, rfl⟩ rfl rfl (by simp) (by simp) (by simp)) ?_
  rintro ⟨m1, b, v1⟩ ⟨hw1, hv1, hb1, hb2⟩
  change WF m1 at hw1
  change okV v1 at hv1
  change b = true → finish m1 = finish m at hb1
  change b = false → m1 = finish m at hb2
  refine S_r ?_
  refine brc_intro (fun hb => ?_) (fun hb => ?_)
  · have hfin := hb1 hb
    subst hb
    rw [finish_step hw1] at hfin
    have hps := hw1.ps
    change Does Tryz.prog 32 _ _ _
    refine coreThreads ?_
    refine SS.loop (fun p : Nat × MZ × Bool × VZ => p.1 ≤ m1.ts.length ∧ okV p.2.2.2 ∧ sweepN m1 p.1 = (p.2.1, p.2.2.1)) (fun p => [(0, cv (.ptr 0 0)), (3, i64 m.k), (4, bl p.2.2.1), (10, i64 m1.ps.length), (11, i64 p.1)]) (fun p => machH p.2.1 p.2.2.2) (fun p => m1.ts.length - p.1) [6, 7, 8]
      (At.mk' [0, 3, 4, 10, 11] (0, m1, false, v1) ⟨by simp, hv1, rfl⟩ ⟨rfl, rfl⟩ rfl rfl (by simp) (by simp) (by simp)) ?_
    rintro ⟨i, m2, b2, v2⟩ ⟨hi, hv2, heq⟩
    change i ≤ m1.ts.length at hi
    change okV v2 at hv2
    change sweepN m1 i = (m2, b2) at heq
    have hs := sweepN_ok hw1 i
    have hsu := sweepN_succ m1 i
    rw [heq] at hs hsu
    have hn := hw1.n
    have hw2 : WF m2 := hs.wf
    refine S_r ?_
    refine brc_intro (fun hlt => ?_) (fun hlt => ?_)
    · have hlt : i < m1.ts.length := by
        have := of_decide_eq_true hlt
        have : (i : Int) < (m1.ps.length : Int) := this
        omega
      refine SS.inlR ?_
      change Does Tryz.prog 44 _ _ _
      refine coreCan hw2 i ?_
      refine brc_intro (fun hc => ?_) (fun hc => ?_)
      · change Does Tryz.prog 43 _ _ _
        refine coreSteps2 fun kx hkx => ?_
        refine brc_intro (fun hk => ?_) (fun hk => ?_)
        · have hk : m2.k < 20000 := by
            have : kx < 20000 := of_decide_eq_true hk
            omega
          have hnew : sweepN m1 (i + 1) = ((stepZ m2 i).2, true) := by rw [hsu, sweepS, if_pos ⟨hc, hk⟩]
          change Does Tryz.prog 19 _ _ _
          refine coreStep hw2 hv2 i (fun _ v3 hv3 => ?_) fun _ v3 hv3 => ?_
          all_goals
            generalize (stepZ m2 i).2 = m3 at hnew ⊢
            refine At.mk' [0, 3, 4, 10, 11] (i + 1, m3, true, v3) ⟨⟨by show i + 1 ≤ m1.ts.length; omega, hv3, hnew⟩, by show m1.ts.length - (i + 1) < m1.ts.length - i; omega⟩ ⟨?_, rfl⟩ rfl rfl (by simp) (by simp) (by decide)
            rw [wrap_i64 (i + 1) (by omega) (by omega)]
            rfl
        · have hk : ¬ m2.k < 20000 := by
            have : ¬ kx < 20000 := of_decide_eq_false hk
            omega
          refine At.mk' [0, 3, 4, 10, 11] (i + 1, m2, b2, v2) ⟨⟨by show i + 1 ≤ m1.ts.length; omega, hv2, by show sweepN m1 (i + 1) = (m2, b2); rw [hsu, sweepS, if_neg (fun h => hk h.2)]⟩, by show m1.ts.length - (i + 1) < m1.ts.length - i; omega⟩ ⟨?_, rfl⟩ rfl rfl (by simp) (by simp) (by decide)
          rw [wrap_i64 (i + 1) (by omega) (by omega)]
          rfl
      · refine At.mk' [0, 3, 4, 10, 11] (i + 1, m2, b2, v2) ⟨⟨by show i + 1 ≤ m1.ts.length; omega, hv2, by show sweepN m1 (i + 1) = (m2, b2); rw [hsu, sweepS, if_neg (fun h => by rw [show canZ m2 (i : Int) = true from h.1] at hc; cases hc)]⟩, by show m1.ts.length - (i + 1) < m1.ts.length - i; omega⟩ ⟨?_, rfl⟩ rfl rfl (by simp) (by simp) (by decide)
        rw [wrap_i64 (i + 1) (by omega) (by omega)]
        rfl
    · have hlt : ¬ (i : Int) < (m1.ps.length : Int) := of_decide_eq_false hlt
      obtain rfl : i = m1.ts.length := by omega
      rw [heq] at hfin
      dsimp only at hfin
      have hk1 : b2 = true → m1.k < m2.k := hs.up
      have hk2 : m1.k ≤ m2.k := hs.k
      have hk3 := hw2.k
      refine At.mk' [0, 3, 4] (m2, b2, v2) ⟨⟨hw2, hv2, fun h => ?_, fun h => ?_⟩, ?_⟩ ⟨rfl, rfl⟩ rfl rfl (by simp) (by simp) (by decide)
      · change b2 = true at h
        rw [if_pos h] at hfin
        exact hfin
      · change b2 = false at h
        rw [if_neg (by rw [h]; decide)] at hfin
        exact hfin
      · show 2 * (20000 - m2.k) + (if b2 = true then 1 else 0) < 2 * (20000 - m1.k) + (if true = true then 1 else 0)
        rw [if_pos rfl]
        split
        · rename_i h
          have := hk1 h
          omega
        · omega
  · have hm := hb2 hb
    change Does Tryz.prog 43 _ _ _
    refine coreSteps ?_
    have := h v1 (IntKind.i64.wrap ((m1.k : Int) - m.k)) hv1 (hm ▸ hw1) (by rw [hm])
    rw [← hm] at this
    exact this

theorem fairFinish (hw : WF m) (hv : okV v) (h : ∀ (v' : VZ) (n : Int), okV v' → WF (finish m) → K (i64 n) [6, 7, 8] (machH (finish m) v')) : Does Tryz.prog 20 [cv (.ptr 0 0)] (machH m v) K :=
  fairFinishN hw hv fun v' n hv' hw' _ => h v' n hv' hw'

end
end Go.Mac
end
