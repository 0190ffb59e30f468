/- Threads that pass, too few: each step keeps what holds; and in the end. -/
import Derived.Test.YtnkmddcadkcdcaaDoorQMissZ
open Go Go.Proofs Go.Mac
set_option maxRecDepth 100000
namespace Go.Mac

section
variable {B N n : Nat} {gs : Nat → GZ} {v : Int} {m : MZ}

theorem msA_le (g : GZ) : msA g ≤ 1 := by unfold msA; split <;> omega

theorem MsJ.cnt (h : MsJ B N n gs v m) : rsum n (fun t => msA (gs t)) ≤ n := by
  have := rsum_const n 1 (fun t => msA (gs t)) fun s _ => msA_le _
  omega

theorem ms_upd (h : MsJ B N n gs v m) {t : Nat} (hc : canZ m t = true) (hk : m.k < 20000) {g' : GZ} {v' : Int} {e : EffW} (hl : LS 1 ([()].map fun _ => passB) (gs t) [v] g' [v'] e) (hT : MsG N n g') {d : Nat} (hd : v' = v ∧ d = 0 ∨ d = 10)
    (hex : v' = msW N (rsum n fun s => msA (updG gs t g' s))) (hel : effWE (m.k + 1) t m.el e = m.el) (hp : msP v' g' + 10 * m.ss.length + 8 * d + 1 ≤ msP v (gs t) + 10 * (effWS t m.ss e).length) : ∃ gs' v', MsJ B N n gs' v' (stepZ m t).2 := by
  obtain ⟨ht, hdn, hno⟩ := h.sys.can hc
  obtain ⟨hs, e1, e2, e3, e4⟩ := h.sys.ls hc hk rfl hl
  obtain ⟨hn8, hN⟩ := h.hn
  have hl1 := ss_len h.sys.wf
  have hl2 := ss_len hs.wf
  rw [h.sys.ln] at hl1
  rw [hs.ln, e1] at hl2
  refine ⟨updG gs t g', v', hs, h.hn, fun s hsn => ?_, hex, by rw [e3, hel]; exact h.el, ?_⟩
  · by_cases hst : s = t
    · subst hst; rw [updG_same]; exact hT
    · rw [updG_ne _ _ hst]; exact h.th s hsn
  · rw [e1, e4]
    have hpot := h.pot
    have hsum := rsum_upd (n := n) (t := t) (g := fun s => msP v' (updG gs t g' s)) (h := fun s => msP v (gs s) + d) ht fun s _ hne => by
      rw [updG_ne _ _ hne]
      exact msP_mono (by omega) _
    try dsimp only at hsum
    rw [updG_same, rsum_plus] at hsum
    have hnd : n * d ≤ 8 * d := Nat.mul_le_mul_right _ hn8
    omega

theorem ms_step (h : MsJ B N n gs v m) {t : Nat} (hc : canZ m t = true) (hk : m.k < 20000) : ∃ gs' v', MsJ B N n gs' v' (stepZ m t).2 := by
  obtain ⟨ht, hd, hno⟩ := h.sys.can hc
  have hcn := h.cnt
  have hex := h.ex
  have hz : ∀ _ : Unit, msA (gs t) = 0 → rsum n (fun s => msA (gs s)) < n := fun _ h0 => by
    have h1 := rsum_upd (n := n) (t := t) (g := fun s => msA (gs s)) (h := fun s => if s = t then 0 else 1) ht fun s _ hne => by rw [if_neg hne]; exact msA_le _
    have h2 := rsum_upd (n := n) (t := t) (g := fun s => if s = t then 0 else 1) (h := fun _ => 1) ht fun s _ hne => by rw [if_neg hne]; exact Nat.le_refl _
    have h3 := rsum_const n 1 (fun _ => 1) fun _ _ => Nat.le_refl _
    simp only [if_true] at h1 h2
    omega
  obtain ⟨g', v', e, hl, hT, hout⟩ := ms_local h.hn.2 (h.th t ht) ⟨_, hcn, hex⟩ fun h0 => ⟨_, hz () h0, hex⟩
  have hset := rsum_set (n := n) (gs := gs) (g := gs t) (fun _ g => msA g) (g' := g') ht rfl
  try dsimp only at hset
  cases hout with
  | quiet hv he ha hp =>
    subst hv
    have hss : effWS t m.ss e = m.ss := by rcases he with rfl | ⟨_, _, _, _, rfl⟩ <;> rfl
    refine ms_upd h hc hk hl hT (.inl ⟨rfl, rfl⟩) ?_ (by rcases he with rfl | ⟨_, _, _, _, rfl⟩ <;> rfl) (by rw [hss]; omega)
    rw [show rsum n (fun s => msA (updG gs t g' s)) = rsum n (fun s => msA (gs s)) by omega]
    exact hex
  | sleep hv he ha hp =>
    subst hv he
    refine ms_upd h hc hk hl hT (.inl ⟨rfl, rfl⟩) ?_ rfl (by show _ ≤ _ + 10 * (m.ss ++ [_]).length; rw [List.length_append]; simp only [List.length_singleton]; omega)
    rw [show rsum n (fun s => msA (updG gs t g' s)) = rsum n (fun s => msA (gs s)) by omega]
    exact hex
  | arrive hv he ha hp =>
    subst hv
    have hss : effWS t m.ss e = m.ss := by obtain ⟨_, _, _, _, rfl⟩ := he; rfl
    refine ms_upd h hc hk hl hT (.inr rfl) ?_ (by obtain ⟨_, _, _, _, rfl⟩ := he; rfl) (by rw [hss]; omega)
    rw [show rsum n (fun s => msA (updG gs t g' s)) = rsum n (fun s => msA (gs s)) + 1 by omega, msW]
    rw [msW] at hex
    omega

def MsI (B N n : Nat) (m : MZ) : Prop := ∃ gs v, MsJ B N n gs v m

theorem MsJ.mono {B' : Nat} (h : MsJ B N n gs v m) (hb : B ≤ B') : MsJ B' N n gs v m :=
  ⟨h.sys, h.hn, h.th, h.ex, h.el, Nat.le_trans h.pot hb⟩

theorem MsI.step (h : MsI B N n m) (t : Int) : MsI B N n (stepZ m t).2 := by
  obtain ⟨gs, v, h⟩ := h
  rcases step_or h.sys.wf t with e | ⟨s, rfl, hc, hk⟩
  · rw [e]; exact ⟨gs, v, h⟩
  · exact ms_step h hc hk

theorem MsJ.poke (h : MsJ B N n gs v m) (t : Int) : MsJ (B + 10) N n gs v (pokeZ m t) := by
  refine ⟨h.sys.poke t, h.hn, h.th, h.ex, h.el, ?_⟩
  have h1 := h.pot
  have h2 := filter_lenS (t := t) h.sys.wf.ss.1
  show m.k + (rsum n (fun t => msP v (gs t)) + 10 * (n - (m.ss.filter fun s => s.t != t).length)) ≤ B + 10
  omega

end

theorem pass_right : rightZ (catP ([()].map fun _ => passB)) 1 = true := by decide +kernel

def msM (N n : Nat) : MZ := mz0 (List.replicate n (catP ([()].map fun _ => passB))) [msW N 0]

theorem ms_init {N n : Nat} (hn : n ≤ 8 ∧ n < N ∧ N ≤ 13) : MsJ 900 N n (fun _ => ⟨0, th0⟩) (msW N 0) (msM N n) := by
  have hts : ∀ t, t < n → (msM N n).ts[t]? = some th0 := fun t ht => by
    show (List.replicate (List.replicate n _).length th0)[t]? = _
    rw [List.length_replicate, List.getElem?_replicate, if_pos ht]
  have e1 : msA ⟨0, th0⟩ = 0 := by decide
  have s0 : rsum n (fun _ => 0) = 0 := rsum_zero fun _ _ => rfl
  refine ⟨⟨mz0_wf (by simp; omega) (by simp) (fun p hp => ?_) (fun w hw => ?_), by simp [msM, mz0], rfl, fun t ht => ?_, rfl, fun t ht => ?_⟩, hn, fun t ht => ⟨rfl, rfl, 0, 0, 0, 0, 0, rfl, by simp [msOk, th0]⟩, by simp only [e1]; rw [s0], rfl, ?_⟩
  · rw [(List.mem_replicate.1 hp).2]
    exact pass_right
  · rw [List.mem_singleton.1 hw, msW]
    omega
  · show (List.replicate n _)[t]? = _
    rw [List.getElem?_replicate, if_pos ht]
  · rw [hts t ht]; rfl
  · have h1 : rsum n (fun t => msP (msW N 0) ⟨0, th0⟩) ≤ n * 102 := rsum_const _ _ _ fun t ht => Nat.le_refl 102
    have h2 : n * 102 ≤ 8 * 102 := Nat.mul_le_mul_right _ hn.1
    show 0 + (_ + 10 * (n - 0)) ≤ 900
    omega

theorem ms_moves {N n : Nat} (hn : n ≤ 8 ∧ n < N ∧ N ≤ 13) (ms : List MoveZ) : MsI (900 + 10 * ms.length) N n (movesZ (msM N n) ms) := by
  have := moves_inv (P := fun i m => MsI (900 + 10 * i) N n m)
    (fun i m t h => by obtain ⟨gs, v, h⟩ := h.step t; exact ⟨gs, v, h.mono (by omega)⟩) (fun i m t h => by obtain ⟨gs, v, h⟩ := h; exact ⟨gs, v, (h.poke t).mono (by omega)⟩) ms 0 _ ⟨_, _, ms_init hn⟩
  rw [Nat.zero_add] at this
  exact this

/-- In the end nobody was told anything, and nobody can go on. -/
theorem ms_fin {B N n : Nat} {z : MZ} (h : MsI B N n z) (h1 : 1 ≤ n) (hb : B < 20000) : (finish z).el = [] ∧ stuckZ (finish z) = true := by
  have hw : WF z := by obtain ⟨_, _, h⟩ := h; exact h.sys.wf
  obtain ⟨h2, hno⟩ := fin_stop (P := MsI B N n) (fun m t h => h.step t) (fun m h => by obtain ⟨_, _, h⟩ := h; have := h.pot; omega) h hw
  obtain ⟨gs, v, hJ⟩ := h2
  generalize finish z = y at hJ hno ⊢
  refine ⟨hJ.el, ?_⟩
  rw [stuckZ, Bool.and_eq_true]
  refine ⟨List.all_eq_true.2 fun t ht => ?_, ?_⟩
  · rw [hno t (List.mem_range.1 ht)]
    rfl
  · have ht := hJ.sys.ts 0 (by omega)
    have hd := (hJ.th 0 (by omega)).2.1
    rw [allZ, Bool.not_eq_true', List.all_eq_false]
    refine ⟨_, List.mem_of_getElem? ht, ?_⟩
    show ¬ (gs 0).y.dn = true
    rw [hd]
    decide

end Go.Mac
