/- Done once: behind any moves, and in the end. -/
import Derived.Test.YtondghnbecnpiaaDoorQOnceZ
import Derived.Test.YtondghnbecnpiaaDoorQGone
open Go Go.Proofs Go.Mac
set_option maxRecDepth 100000
namespace Go.Mac

def OnceI (B : Nat) (cs : List Nat) (m : MZ) : Prop := ∃ (w0 w1 : Int) (q t0 : Nat), OnceJ B cs w0 w1 q t0 m

theorem OnceI.mono {B B' : Nat} {cs : List Nat} {m : MZ} (h : OnceI B cs m) (hb : B ≤ B') : OnceI B' cs m := by
  obtain ⟨w0, w1, q, t0, h⟩ := h
  exact ⟨w0, w1, q, t0, h.wf, h.ps, h.n, h.ws, h.th, h.sl, h.st, h.t0, h.f, Nat.le_trans h.pot hb⟩

theorem OnceI.step {B : Nat} {cs : List Nat} {m : MZ} (h : OnceI B cs m) (t : Int) : OnceI B cs (stepZ m t).2 := by
  obtain ⟨w0, w1, q, t0, h⟩ := h
  rcases step_or h.wf t with e | ⟨s, rfl, hc, hk⟩
  · rw [e]; exact ⟨w0, w1, q, t0, h⟩
  · exact once_step h hc hk

theorem filter_len {ss : List Slp} {t : Int} (h : (ss.map (·.t)).Nodup) : ss.length ≤ (ss.filter fun s => s.t != t).length + 1 := by
  induction ss with
  | nil => simp
  | cons x xs ih =>
    rw [List.map_cons, List.nodup_cons] at h
    by_cases hx : x.t = t
    · have hno : noT xs t := fun s hs e => h.1 (List.mem_map.2 ⟨s, hs, e.trans hx.symm⟩)
      rw [List.filter_cons_of_neg (by simp [hx]), filter_noT hno, List.length_cons]
      omega
    · rw [List.filter_cons_of_pos (by simp [hx]), List.length_cons, List.length_cons]
      have := ih h.2
      omega

theorem OnceI.poke {B : Nat} {cs : List Nat} {m : MZ} (h : OnceI B cs m) (t : Int) : OnceI (B + 4) cs (pokeZ m t) := by
  obtain ⟨w0, w1, q, t0, h⟩ := h
  have hf := h.f
  refine ⟨w0, w1, q, t0, h.wf.poke t, h.ps, h.n, h.ws, h.th, fun s hs => h.sl s (List.mem_filter.1 hs).1, h.st, h.t0, ⟨hf.hq, hf.hw0, hf.hw1, fun hn => hf.hss fun e => hn (by show m.ss.filter _ = []; rw [e]; rfl), hf.fet, hf.st0, hf.st1, hf.ev, hf.mine⟩, ?_⟩
  have h1 := h.pot
  have h2 := filter_len (t := t) h.wf.ss.1
  show m.k + (rsum m.ts.length (fun t => onceR w0 (cs.getD t 0) (thZ m t)) + 4 * (m.ts.length - (m.ss.filter fun s => s.t != t).length)) ≤ B + 4
  omega

theorem onceRight : ((List.range 9).all fun c => rightZ (repP onceB c) 2) = true := by decide +kernel

theorem once_init {cs : List Nat} (hn : cs.length ≤ 8) (hc : ∀ c ∈ cs, c ≤ 8) : OnceI 3112 cs (mz0 (cs.map (repP onceB)) [0, 0]) := by
  have hts : ∀ (t : Nat) (x : ThZ), (mz0 (cs.map (repP onceB)) [0, 0]).ts[t]? = some x → x = th0 := fun t x hx => by
    have := List.mem_of_getElem? hx
    exact (List.mem_replicate.1 this).2
  refine ⟨0, 0, 0, 0, mz0_wf (by simp; omega) (by simp) (fun p hp => ?_) (by simp), rfl, hn, rfl, fun t x c hx hcc => ?_, (fun s hs => by cases hs), fun t x hx => ?_, fun h => absurd rfl h,
    ⟨.inl rfl, rfl, rfl, fun h => absurd rfl h, rfl, fun _ => rfl, fun h => absurd h (by decide), (fun e he => by cases he), rfl⟩, ?_⟩
  · obtain ⟨c, hc', rfl⟩ := List.mem_map.1 hp
    have := hc c hc'
    exact List.all_eq_true.1 onceRight c (List.mem_range.2 (by omega))
  · obtain rfl := hts t x hx
    refine .inr ⟨0, 0, 0, 0, 0, 0, 0, 0, 0, 0, rfl, fun h => absurd h (by decide), ?_⟩
    by_cases h0 : 0 < c
    · exact .inl ⟨h0, by decide, trivial⟩
    · exact .inr ⟨by omega, rfl⟩
  · obtain rfl := hts t x hx
    rw [onceQ]
    split <;> rfl
  · have hl : (mz0 (cs.map (repP onceB)) [0, 0]).ts.length = cs.length := by simp [mz0]
    rw [hl]
    have := rsum_const cs.length 385 (fun t => onceR 0 (cs.getD t 0) (thZ (mz0 (cs.map (repP onceB)) [0, 0]) t)) fun s hs => by
      have e : thZ (mz0 (cs.map (repP onceB)) [0, 0]) s = th0 := by
        obtain ⟨x, hx⟩ : ∃ x, (mz0 (cs.map (repP onceB)) [0, 0]).ts[s]? = some x := ⟨_, List.getElem?_eq_getElem (by omega)⟩
        rw [thZ_get hx]; exact hts s x hx
      rw [e]
      have hcs : cs.getD s 0 ≤ 8 := by
        rw [List.getD_eq_getElem?_getD, List.getElem?_eq_getElem hs]
        exact hc _ (List.getElem_mem hs)
      generalize cs.getD s 0 = c at hcs
      have : ∀ c, c < 9 → onceR 0 c th0 ≤ 385 := by decide
      exact this c (by omega)
    show 0 + (_ + 4 * (cs.length - 0)) ≤ 3112
    have h8 : cs.length * 385 ≤ 8 * 385 := Nat.mul_le_mul_right _ hn
    omega

theorem once_moves {cs : List Nat} (hn : cs.length ≤ 8) (hc : ∀ c ∈ cs, c ≤ 8) (l : List MoveZ) : OnceI (3112 + 4 * l.length) cs (movesZ (mz0 (cs.map (repP onceB)) [0, 0]) l) := by
  have := moves_inv (P := fun i m => OnceI (3112 + 4 * i) cs m) (fun i m t h => (h.step t).mono (by omega)) (fun i m t h => h.poke t) l 0 _ (once_init hn hc)
  rw [Nat.zero_add] at this
  exact this

theorem once_finish {B : Nat} {cs : List Nat} {m : MZ} (h : OnceI B cs m) (hb : B < 20000) : OnceI B cs (finish m) ∧ ∀ x ∈ (finish m).ts, x.dn = true := by
  have hw : WF m := by obtain ⟨_, _, _, _, h⟩ := h; exact h.wf
  obtain ⟨h1, h2⟩ := finish_inv (P := OnceI B cs) (fun m t hP _ _ => hP.step t) h hw
  refine ⟨h1, ?_⟩
  generalize finish m = z at h1 h2
  obtain ⟨w0, w1, q, t0, h⟩ := h1
  have hk : z.k < 20000 := by have := h.pot; omega
  have hno : ∀ t, t < z.ts.length → canZ z (t : Int) = false := fun t ht => by
    have := h2 t ht
    cases hcz : canZ z (t : Int) with
    | false => rfl
    | true => exact absurd ⟨hcz, hk⟩ this
  have hss : z.ss = [] := by
    by_cases he : z.ss = []
    · exact he
    exfalso
    obtain ⟨q1, q2⟩ := h.f.hss he
    have ht0 := (h.t0 (by omega)).1
    obtain ⟨x, hx⟩ : ∃ x, z.ts[t0]? = some x := ⟨_, List.getElem?_eq_getElem ht0⟩
    have hS := h.st t0 x hx
    rw [onceQ, if_pos ⟨rfl, by omega⟩] at hS
    have hd : x.dn = false := by
      cases hd : x.dn with
      | false => rfl
      | true => rw [onceS, if_pos hd] at hS; omega
    have := can_in hx hd fun s hs e => by
      have h3 := (h.sl s hs).2 x (by rw [e, Int.toNat_natCast]; exact hx)
      rw [onceS, hd, if_neg (by decide), h3.1] at hS
      have : 0 = q := hS
      omega
    rw [hno t0 ht0] at this
    cases this
  intro x hx
  obtain ⟨t, ht⟩ := List.mem_iff_getElem?.1 hx
  cases hd : x.dn with
  | true => rfl
  | false =>
    have := can_in ht hd (by rw [hss]; exact fun s hs => by cases hs)
    rw [hno t (List.getElem?_eq_some_iff.1 ht).1] at this
    cases this

theorem le_sum : ∀ {l : List Nat} {c : Nat}, c ∈ l → c ≤ l.sum
  | x :: l, c, h => by
    rw [List.sum_cons]
    rcases List.mem_cons.1 h with rfl | h
    · omega
    · have := le_sum h; omega

/-- In the end: it was done, if it was asked for. -/
theorem once_end {cs : List Nat} {B : Nat} {w0 w1 : Int} {q t0 : Nat} {m : MZ} (h : OnceJ B cs w0 w1 q t0 m) (hd : ∀ x ∈ m.ts, x.dn = true) : (m.el.map (·.v)).sum = if 0 < cs.sum then 1 else 0 := by
  have hf := h.f
  have hq : q = 0 ∨ q = 14 := by
    by_cases h0 : q = 0
    · exact .inl h0
    by_cases h1 : q = 14
    · exact .inr h1
    obtain ⟨x, hx⟩ : ∃ x, m.ts[t0]? = some x := ⟨_, List.getElem?_eq_getElem (h.t0 h0).1⟩
    have hS := h.st t0 x hx
    rw [onceQ, if_pos ⟨rfl, h1⟩, onceS, if_pos (hd x (List.mem_of_getElem? hx))] at hS
    exact absurd hS.symm h0
  have hnn : cs.length = m.ts.length := by have := h.wf.ps; rw [h.ps, List.length_map] at this; exact this
  have h1 := hf.mine
  have h0 := hf.hw0
  rw [h1]
  rcases hq with rfl | rfl
  · have : cs.sum = 0 := by
      rw [List.sum_eq_zero_iff_forall_eq_nat]
      intro c hc
      obtain ⟨t, ht⟩ := List.mem_iff_getElem?.1 hc
      have htl := (List.getElem?_eq_some_iff.1 ht).1
      obtain ⟨x, hx⟩ : ∃ x, m.ts[t]? = some x := ⟨_, List.getElem?_eq_getElem (by omega)⟩
      rcases h.th t x c hx ht with ⟨_, h2⟩ | ⟨_, _, _, _, _, _, _, _, _, _, rfl, _⟩
      · by_cases hc0 : 0 < c
        · exact absurd h0 (h2 hc0)
        · omega
      · have := hd _ (List.mem_of_getElem? hx)
        cases this
    rw [this]; rfl
  · have ht := (h.t0 (by decide)).2
    have : 0 < cs.sum := by
      rw [List.getD_eq_getElem?_getD] at ht
      cases hc : cs[t0]? with
      | none => rw [hc] at ht; exact absurd ht (by decide)
      | some c =>
        rw [hc] at ht
        have := le_sum (List.mem_of_getElem? hc)
        exact Nat.lt_of_lt_of_le ht this
    rw [if_pos this]; rfl

theorem all_of {m : MZ} (h : ∀ x ∈ m.ts, x.dn = true) : allZ m = true := List.all_eq_true.2 h
theorem stuck_of {m : MZ} (h : ∀ x ∈ m.ts, x.dn = true) : stuckZ m = false := by rw [stuckZ, all_of h, Bool.not_true, Bool.and_false]

end Go.Mac
