/- Threads that ask a phaser, and one who closes it: from the start, behind anything, and in the end. -/
import Derived.Test.YtlimhldkkbaohaaDoorQGcO
open Go Go.Proofs Go.Mac
set_option maxRecDepth 100000
namespace Go.Mac

theorem bodyG_say {c : CallZ} (h : gFit c) : sayB (bodyG c) = true := by
  obtain ⟨w, n⟩ := c
  rcases gfit_w h with ⟨h6, _⟩ | h6 | h6 | h6 | h6 | h6 <;> (dsimp only at h6; subst h6; rfl)

/-- What holds of all, and of one who closes. -/
def GcI (B n t0 : Nat) (ls : Nat → List CallZ) (m : MZ) : Prop := ∃ gs v, GcJ B n ls gs v m ∧ ToldW n gs m.el ∧ t0 < n ∧ ls t0 = ownL ∧ OwnG v (gs t0) ∧ ∀ k x, (ansT t0 m.el)[k]? = some x → ownSay k x

section
variable {B n t0 : Nat} {ls : Nat → List CallZ} {m : MZ}

theorem OwnG.keep {v v' : Int} {g : GZ} (h : OwnG v g) (hv : v' = v ∨ v < 9223372036854775808) (hO : over' v → v' = v) : OwnG v' g := by
  obtain ⟨j, o, rg, dn⟩ := g
  have ov : over' v → over' v' := fun h => by rw [hO h]; exact h
  match j, h with
  | 0, h => exact ⟨fun a b => ov (h.1 a b), fun a => ov (h.2.1 a), h.2.2⟩
  | 1, h => exact ⟨ov h.1, h.2⟩
  | 2, h => exact ⟨ov h.1, h.2⟩
  | 3, h => exact ⟨ov h.1, h.2⟩
  | j + 4, h => exact ov h

theorem GcI.step (h : GcI B n t0 ls m) (t : Int) : GcI B n t0 ls (stepZ m t).2 := by
  obtain ⟨gs, v, h, hT, h0, hl0, hO, hS⟩ := h
  rcases step_or h.sys.wf t with e | ⟨s, rfl, hc, hk⟩
  · rw [e]; exact ⟨gs, v, h, hT, h0, hl0, hO, hS⟩
  · obtain ⟨hs, hd, _⟩ := h.sys.can hc
    obtain ⟨g', v', e, hl, hV, hJ⟩ := gc_step h hc hk
    obtain ⟨_, _, _, hel, _⟩ := h.sys.ls hc hk rfl hl
    have hT' : ToldW n (updG gs s g') (stepZ m s).2.el := by
      obtain ⟨i, y', hi, ho, hn, rfl⟩ := hl
      exact hT.step h.sys (fun b hb => by obtain ⟨c, hc, rfl⟩ := List.mem_map.1 hb; exact bodyG_say (h.hf s hs c hc)) hc hk hi ho hn
    refine ⟨_, _, hJ, hT', h0, hl0, ?_, fun k x hx => ?_⟩
    · by_cases hst : t0 = s
      · subst hst
        rw [updG_same]
        rw [hl0] at hl
        have hG := h.th t0 hs
        rw [hl0] at hG
        exact (own_local h.val hG hd hO hl).1
      · rw [updG_ne _ _ hst]
        exact hO.keep hV fun hov => by
          rcases hV with hV | hV
          · exact hV
          · have : 9223372036854775808 ≤ v := hov
            omega
    · rw [hel] at hx
      have old : (ansT t0 m.el)[k]? = some x → ownSay k x := hS k x
      cases e with
      | say a y =>
        have hx : (ansT t0 (m.el ++ [⟨((m.k + 1 : Nat) : Int), a, (s : Int), y⟩]))[k]? = some x := hx
        rw [ansT_snoc] at hx
        by_cases hst : t0 = s
        · subst hst
          rw [hl0] at hl
          have hG := h.th t0 hs
          rw [hl0] at hG
          obtain ⟨ha, hy⟩ := (own_local h.val hG hd hO hl).2 a y rfl
          rw [if_pos ⟨ha, rfl⟩] at hx
          rcases Nat.lt_or_ge k (ansT t0 m.el).length with hk' | hk'
          · rw [List.getElem?_append_left hk'] at hx
            exact old hx
          · rw [List.getElem?_append_right hk'] at hx
            have hl := hT t0 hs
            cases hq : k - (ansT t0 m.el).length with
            | zero =>
              rw [hq] at hx
              obtain rfl : y = x := by simpa using hx
              obtain rfl : k = (gs t0).j := by omega
              exact hy
            | succ q => rw [hq] at hx; simp at hx
        · rw [if_neg fun h => hst (by have := h.2; dsimp only at this; omega)] at hx
          exact old hx
      | no => exact old hx
      | act o c x y => exact old hx
      | sleep c => exact old hx
      | wake c n => exact old hx

theorem GcJ.poke {gs : Nat → GZ} {v : Int} (h : GcJ B n ls gs v m) (t : Int) : GcJ (B + 10) n ls gs v (pokeZ m t) := by
  refine ⟨h.sys.poke t, h.hn, h.hf, h.th, h.rw, fun s hs => h.sl s (List.mem_filter.1 hs).1, fun hne hov => ?_, ?_⟩
  · exact h.jn (fun e => hne (by show m.ss.filter _ = []; rw [e]; rfl)) hov
  · have h1 := h.pot
    have h2 := filter_lenS (t := t) h.sys.wf.ss.1
    show m.k + (rsum n (fun t => glG v (ls t) (gs t)) + 10 * (n - (m.ss.filter fun s => s.t != t).length)) ≤ B + 10
    omega

theorem GcI.poke (h : GcI B n t0 ls m) (t : Int) : GcI (B + 10) n t0 ls (pokeZ m t) := by
  obtain ⟨gs, v, h, r⟩ := h
  exact ⟨gs, v, h.poke t, r⟩

theorem GcI.mono {B' : Nat} (h : GcI B n t0 ls m) (hb : B ≤ B') : GcI B' n t0 ls m := by
  obtain ⟨gs, v, h, r⟩ := h
  exact ⟨gs, v, ⟨h.sys, h.hn, h.hf, h.th, h.rw, h.sl, h.jn, Nat.le_trans h.pot hb⟩, r⟩

/-- In the end: all are at their ends, it is over, and who closed it was told so. -/
theorem gc_fin (h : GcI B n t0 ls m) (hb : B < 20000) : allZ (finish m) = true ∧ stuckZ (finish m) = false ∧ (∃ v : Int, (finish m).ws = [v] ∧ 9223372036854775808 ≤ v ∧ v < 18446744073709551616) ∧
    ∃ x, ansT t0 (finish m).el = [x, -1, -1, -1] ∧ (x = 0 ∨ x = -1) := by
  have hw : WF m := by obtain ⟨_, _, h, _⟩ := h; exact h.sys.wf
  obtain ⟨h2, hno⟩ := fin_stop (P := GcI B n t0 ls) (fun m t h => h.step t) (fun m h => by obtain ⟨_, _, h, _⟩ := h; have := h.pot; omega) h hw
  obtain ⟨gs, v, hJ, hT, h0, hl0, hO, hS⟩ := h2
  generalize finish m = y at hJ hno hT hS ⊢
  have at1 {t : Nat} (ht : t < n) (hd : (gs t).y.dn = false) : ∃ c, (ls t)[(gs t).j]? = some c ∧ (c.w = 10 ∧ (gs t).y.pc = 8 ∨ c.w = 9 ∧ (gs t).y.pc = 36) := by
    rcases hJ.sys.stop hno ht with hd' | ⟨s, hs, e⟩
    · rw [hd'] at hd; cases hd
    · obtain ⟨_, h1, _⟩ := hJ.sl s hs
      rw [e, Int.toNat_natCast] at h1
      exact h1
  have done {t : Nat} (ht : t < n) (hd : (gs t).y.dn = true) : (gs t).j = (ls t).length := by
    obtain ⟨r1, r2, r3, r4, r5, _, h1 | ⟨h1, _⟩⟩ := hJ.th t ht
    · exact h1.2
    · rw [hd] at h1; cases h1
  have hd0 : (gs t0).y.dn = true := by
    cases hd : (gs t0).y.dn with
    | true => rfl
    | false =>
      exfalso
      obtain ⟨c, hc, hcw⟩ := at1 h0 hd
      rw [hl0] at hc
      have hO' := hO
      rw [OwnG] at hO'
      generalize (gs t0).j = j at hc hO'
      generalize (gs t0).y.pc = o at hcw hO'
      have hj4 := (List.getElem?_eq_some_iff.1 hc).1
      rcases (show j = 0 ∨ j = 1 ∨ j = 2 ∨ j = 3 by have : j < 4 := hj4; omega) with rfl | rfl | rfl | rfl <;> (obtain rfl := Option.some.inj hc)
      · simp at hcw
      · simp at hcw
      · have ho : o = 36 := by simpa using hcw
        obtain ⟨_, h1⟩ := hO'
        unfold failO at h1
        omega
      · simp at hcw
  have hj0 := done h0 hd0
  rw [hl0] at hj0
  have hov : 9223372036854775808 ≤ v := by
    have hO' := hO
    rw [OwnG, show (gs t0).j = 4 from hj0] at hO'
    exact hO'
  have hss : y.ss = [] := Classical.byContradiction fun hne => by
    obtain ⟨t, ht, hb⟩ := hJ.jn hne hov
    cases hd : (gs t).y.dn with
    | true =>
      have hnone : (ls t)[(gs t).j]? = none := List.getElem?_eq_none_iff.2 (by have := done ht hd; omega)
      rw [gwG, hnone] at hb
      cases hb
    | false =>
      obtain ⟨c, hc, hcw⟩ := at1 ht hd
      rw [gwG, hc] at hb
      have hb : gW c (gs t).y.pc (rgZ (gs t).y.rg 2) (rgZ (gs t).y.rg 3) = true := hb
      unfold gW at hb
      rcases hcw with ⟨h1, h2⟩ | ⟨h1, h2⟩
      · rw [if_pos (.inr h1)] at hb; cases hb
      · rw [if_neg (by omega), if_neg (by omega), h2] at hb
        simp at hb
  have hd := hJ.sys.all hno hss
  refine ⟨all_ofS hd, stuck_ofS hd, ⟨v, hJ.sys.ws, hov, hJ.val.2.1⟩, ?_⟩
  have hlen : (ansT t0 y.el).length = 4 := (hT t0 h0).trans hj0
  match hq : ansT t0 y.el, hlen with
  | [a, b, c, d], _ =>
    rw [hq] at hS
    have s0 := hS 0 a rfl
    have s1 := hS 1 b rfl
    have s2 := hS 2 c rfl
    have s3 := hS 3 d rfl
    unfold ownSay at s0 s1 s2 s3
    refine ⟨a, ?_, by omega⟩
    rw [show b = -1 by omega, show c = -1 by omega, show d = -1 by omega]

end
end Go.Mac
