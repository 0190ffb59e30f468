/- Threads that lock and unlock: behind any moves, and in the end. -/
import Derived.Test.YtfgmlilpojnnhaaDoorQMutexZ
import Derived.Test.YtfgmlilpojnnhaaDoorQGone
open Go Go.Proofs Go.Mac
set_option maxRecDepth 100000
namespace Go.Mac

def MutI (B n c : Nat) (m : MZ) : Prop := ∃ (w : Int) (t0 : Nat), MutJ B n c w t0 m

theorem MutI.mono {B B' n c : Nat} {m : MZ} (h : MutI B n c m) (hb : B ≤ B') : MutI B' n c m := by
  obtain ⟨w, t0, h⟩ := h
  exact ⟨w, t0, h.wf, h.ps, h.hn, h.ws, h.hw, h.th, h.sl, h.ho, h.tl, h.jn, h.fo, h.el, Nat.le_trans h.pot hb⟩

theorem MutI.step {B n c : Nat} {m : MZ} (h : MutI B n c m) (t : Int) : MutI B n c (stepZ m t).2 := by
  obtain ⟨w, t0, h⟩ := h
  rcases step_or h.wf t with e | ⟨s, rfl, hc, hk⟩
  · rw [e]; exact ⟨w, t0, h⟩
  · exact mut_step h hc hk

theorem filter_len {ss : List Slp} {t : Int} (h : (ss.map (·.t)).Nodup) : ss.length ≤ (ss.filter fun s => s.t != t).length + 1 := by
  induction ss with
  | nil => simp
  | cons x xs ih =>
    rw [List.map_cons, List.nodup_cons] at h
    by_cases hx : x.t = t
    · have hno : noT xs t := fun s hs e => h.1 (List.mem_map.2 ⟨s, hs, e.trans hx.symm⟩)
      rw [List.filter_cons_of_neg (by simp [hx]), filter_noT hno, List.length_cons]
      omega
    · rw [List.filter_cons_of_pos (by simp [hx]), List.length_cons, List.length_cons]
      have := ih h.2
      omega

theorem MutI.poke {B n c : Nat} {m : MZ} (h : MutI B n c m) (t : Int) : MutI (B + 5) n c (pokeZ m t) := by
  obtain ⟨w, t0, h⟩ := h
  refine ⟨w, t0, h.wf.poke t, h.ps, h.hn, h.ws, h.hw, h.th, fun s hs => h.sl s (List.mem_filter.1 hs).1, h.ho, h.tl, fun hn => ?_, h.fo, h.el, ?_⟩
  · have hn' : m.ss ≠ [] := fun e => hn (by show m.ss.filter _ = []; rw [e]; rfl)
    rcases h.jn hn' with h1 | ⟨s, x, h1, h2, h3⟩
    · exact .inl h1
    · exact .inr ⟨s, x, h1, h2, fun y hy => h3 y (List.mem_filter.1 hy).1⟩
  · have h1 := h.pot
    have h2 := filter_len (t := t) h.wf.ss.1
    show m.k + (rsum m.ts.length (fun t => mutR w c (thZ m t)) + 5 * (m.ts.length - (m.ss.filter fun s => s.t != t).length) + heldN w) ≤ B + 5
    omega

theorem mutRight : ((List.range 6).all fun c => rightZ (repP mutB c) 1) = true := by decide +kernel

theorem mut_init {n c : Nat} (hn : n ≤ 8) (hc : c ≤ 5) : MutI 9080 n c (mz0 (List.replicate n (repP mutB c)) [0]) := by
  have hts : ∀ (t : Nat) (x : ThZ), (mz0 (List.replicate n (repP mutB c)) [0]).ts[t]? = some x → x = th0 := fun t x hx => by
    have := List.mem_of_getElem? hx
    exact (List.mem_replicate.1 this).2
  have hl : (mz0 (List.replicate n (repP mutB c)) [0]).ts.length = n := by simp [mz0]
  have hth : ∀ t, t < n → thZ (mz0 (List.replicate n (repP mutB c)) [0]) t = th0 := fun t ht => by
    obtain ⟨x, hx⟩ : ∃ x, (mz0 (List.replicate n (repP mutB c)) [0]).ts[t]? = some x := ⟨_, List.getElem?_eq_getElem (by omega)⟩
    rw [thZ_get hx]; exact hts t x hx
  refine ⟨0, 0, mz0_wf (by simp; omega) (by simp) (fun p hp => ?_) (by simp), rfl, hn, rfl, .inl rfl, fun t x hx => ?_, (fun s hs => by cases hs), fun t x hx => ?_, fun h => absurd rfl h, fun h => absurd rfl h, rfl, ?_, ?_⟩
  · obtain rfl := (List.mem_replicate.1 hp).2
    exact List.all_eq_true.1 mutRight c (List.mem_range.2 (by omega))
  · obtain rfl := hts t x hx
    refine .inr ⟨0, 0, 0, 0, 0, 0, 0, 0, 0, 0, rfl, ?_⟩
    by_cases h0 : 0 < c
    · exact .inl ⟨h0, by decide, trivial⟩
    · exact .inr ⟨by omega, rfl⟩
  · obtain rfl := hts t x hx
    exact (decide_eq_false (fun h => h.1 rfl)).symm
  · rw [hl]
    have := rsum_const n 0 (fun t => mutE c (thZ (mz0 (List.replicate n (repP mutB c)) [0]) t)) fun s hs => by rw [hth s hs]; exact Nat.le_refl 0
    show 0 = _
    omega
  · rw [hl]
    have := rsum_const n 1130 (fun t => mutR 0 c (thZ (mz0 (List.replicate n (repP mutB c)) [0]) t)) fun s hs => by
      rw [hth s hs]
      have : ∀ c, c < 6 → mutR 0 c th0 ≤ 1130 := by decide
      exact this c (by omega)
    show 0 + (_ + 5 * (n - 0) + 0) ≤ 9080
    have h8 : n * 1130 ≤ 8 * 1130 := Nat.mul_le_mul_right _ hn
    omega

theorem mut_moves {n c : Nat} (hn : n ≤ 8) (hc : c ≤ 5) (l : List MoveZ) : MutI (9080 + 5 * l.length) n c (movesZ (mz0 (List.replicate n (repP mutB c)) [0]) l) := by
  have := moves_inv (P := fun i m => MutI (9080 + 5 * i) n c m) (fun i m t h => (h.step t).mono (by omega)) (fun i m t h => h.poke t) l 0 _ (mut_init hn hc)
  rw [Nat.zero_add] at this
  exact this

theorem rsum_eq (n d : Nat) (g : Nat → Nat) (h : ∀ s, s < n → g s = d) : rsum n g = n * d := by
  induction n with
  | zero => simp [rsum]
  | succ n ih =>
    rw [rsum_succ, Nat.succ_mul, ih fun s hs => h s (by omega), h n (by omega)]

theorem mut_finish {B n c : Nat} {m : MZ} (h : MutI B n c m) (hb : B < 20000) : MutI B n c (finish m) ∧ (∀ x ∈ (finish m).ts, x.dn = true) ∧ (finish m).ws = [0] ∧ (finish m).el.length = 2 * n * c := by
  have hw : WF m := by obtain ⟨_, _, h⟩ := h; exact h.wf
  obtain ⟨h1, h2⟩ := finish_inv (P := MutI B n c) (fun m t hP _ _ => hP.step t) h hw
  generalize finish m = z at h1 h2
  refine ⟨h1, ?_⟩
  obtain ⟨w, t0, h⟩ := h1
  have hk : z.k < 20000 := by have := h.pot; omega
  have hno : ∀ t, t < z.ts.length → canZ z (t : Int) = false := fun t ht => by
    have := h2 t ht
    cases hcz : canZ z (t : Int) with
    | false => rfl
    | true => exact absurd ⟨hcz, hk⟩ this
  have hnn : z.ts.length = n := by have := h.wf.ps; rw [h.ps, List.length_replicate] at this; exact this.symm
  -- whoever has it can go on
  have hfree : ∀ x t, z.ts[t]? = some x → mutH x = true → False := fun x t hx hH => by
    have hd : x.dn = false := by
      cases hd : x.dn with
      | false => rfl
      | true => rw [mutH, if_pos hd] at hH; cases hH
    have := can_in hx hd fun s hs e => by
      have h3 := (h.sl s hs).2 x (by rw [e, Int.toNat_natCast]; exact hx)
      rw [mutH, hd, if_neg (by decide), h3.1] at hH
      cases hH
    rw [hno t (List.getElem?_eq_some_iff.1 hx).1] at this
    cases this
  have hw0 : w = 0 := by
    by_cases e : w = 0
    · exact e
    exfalso
    obtain ⟨x, hx⟩ : ∃ x, z.ts[t0]? = some x := ⟨_, List.getElem?_eq_getElem (h.tl e)⟩
    exact hfree x t0 hx ((h.ho t0 x hx).trans (decide_eq_true ⟨e, rfl⟩))
  have hss : z.ss = [] := by
    by_cases he : z.ss = []
    · exact he
    exfalso
    rcases h.jn he with h3 | ⟨t, x, hx, hC, hn⟩
    · omega
    · have hd : x.dn = false := by
        cases hd : x.dn with
        | false => rfl
        | true => rw [mutC, if_pos hd] at hC; cases hC
      have := can_in hx hd hn
      rw [hno t (List.getElem?_eq_some_iff.1 hx).1] at this
      cases this
  have hall : ∀ x ∈ z.ts, x.dn = true := fun x hx => by
    obtain ⟨t, ht⟩ := List.mem_iff_getElem?.1 hx
    cases hd : x.dn with
    | true => rfl
    | false =>
      have := can_in ht hd (by rw [hss]; exact fun s hs => by cases hs)
      rw [hno t (List.getElem?_eq_some_iff.1 ht).1] at this
      cases this
  refine ⟨hall, by rw [h.ws, hw0], ?_⟩
  rw [h.el, hnn, rsum_eq n (2 * c) _ fun s hs => ?_]
  · rw [Nat.mul_comm 2 n, Nat.mul_assoc]
  · obtain ⟨x, hx⟩ : ∃ x, z.ts[s]? = some x := ⟨_, List.getElem?_eq_getElem (by omega)⟩
    rw [thZ_get hx, mutE, if_pos (hall x (List.mem_of_getElem? hx))]

theorem all_of {m : MZ} (h : ∀ x ∈ m.ts, x.dn = true) : allZ m = true := List.all_eq_true.2 h
theorem stuck_of {m : MZ} (h : ∀ x ∈ m.ts, x.dn = true) : stuckZ m = false := by rw [stuckZ, all_of h, Bool.not_true, Bool.and_false]

end Go.Mac
