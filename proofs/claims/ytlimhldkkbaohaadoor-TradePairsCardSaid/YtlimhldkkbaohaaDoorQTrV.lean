/- Who offers, who takes: what holds of cells, in plain terms. -/
import Derived.Test.YtlimhldkkbaohaaDoorQRaceL
open Go Go.Proofs Go.Mac
set_option maxRecDepth 100000
namespace Go.Mac

/-- A thread's part: it offers a word; it saw what it was given; it takes from one; it is about to wake one; it has what it asked for. -/
structure VZt where
  off : Bool
  clr : Bool
  tk : Int
  wk : Int
  got : Bool
  w : Int

def v0t : VZt := ⟨false, false, 0, 0, false, 0⟩

def updV {α : Type} (vs : Nat → α) (t : Nat) (v : α) : Nat → α := fun s => if s = t then v else vs s
theorem updV_same {α : Type} (vs : Nat → α) (t : Nat) (v : α) : updV vs t v t = v := if_pos rfl
theorem updV_ne {α : Type} (vs : Nat → α) {t s : Nat} (v : α) (h : s ≠ t) : updV vs t v s = vs s := if_neg h

structure TrV (n : Nat) (vs : Nat → VZt) (c0 : Int) (x : Nat → Int) : Prop where
  a : c0 ≠ 0 → ∃ t, t < n ∧ (vs t).off = true ∧ c0 = (vs t).w
  b : ∀ t, x t ≠ 0 → t < n ∧ ((vs t).off = true ∨ (vs t).clr = true) ∧ ((vs t).off = true → c0 ≠ (vs t).w)
  c : ∀ s, s < n → (vs s).tk ≠ 0 → ∃ t : Nat, t < n ∧ (vs s).tk = t + 1 ∧ (vs t).off = true ∧ x t = 0 ∧ c0 ≠ (vs t).w
  d : ∀ s s', s < n → s' < n → (vs s).tk ≠ 0 → (vs s).tk = (vs s').tk → s = s'
  e : ∀ t, t < n → (vs t).off = true → x t = 0 → c0 ≠ (vs t).w → ∃ s, s < n ∧ (vs s).tk = t + 1
  g : ∀ t, t < n → (vs t).off = true → (vs t).w % 65536 = t + 1 ∧ 65536 ≤ (vs t).w
  k : ∀ t, t < n → ¬ ((vs t).off = true ∧ (vs t).clr = true)

/-- One's count: a trade that is on its way. -/
def trE (c0 : Int) (v : VZt) : Nat := if v.got = true ∨ v.clr = true ∨ v.tk ≠ 0 then 1 else if v.off = true ∧ c0 ≠ v.w then 1 else 0

section
variable {n : Nat} {vs : Nat → VZt} {c0 : Int} {x : Nat → Int}

theorem TrV.own (h : TrV n vs c0 x) {t s : Nat} (ht : t < n) (hs : s < n) (h1 : (vs t).off = true) (h2 : (vs s).off = true) (e : (vs t).w = (vs s).w) : t = s := by
  have := (h.g t ht h1).1
  have := (h.g s hs h2).1
  omega

theorem TrV.take (h : TrV n vs c0 x) {s : Nat} (hs : s < n) (hv : (vs s).off = false ∧ (vs s).clr = false ∧ (vs s).tk = 0) (hc : c0 ≠ 0) {v' : VZt} (hv' : v'.off = false ∧ v'.clr = false ∧ v'.tk = c0 % 65536) :
    TrV n (updV vs s v') 0 x ∧ ∃ t, t < n ∧ t ≠ s ∧ c0 % 65536 = t + 1 ∧ (vs t).off = true ∧ c0 = (vs t).w ∧ ∀ u, u < n → (vs u).off = true → c0 = (vs u).w → u = t := by
  obtain ⟨t, ht, hoff, hw⟩ := h.a hc
  have hts : t ≠ s := fun e => by subst e; rw [hv.1] at hoff; cases hoff
  obtain ⟨g1, g2⟩ := h.g t ht hoff
  have hxt : x t = 0 := Classical.byContradiction fun hne => (h.b t hne).2.2 hoff hw
  have hnt : ∀ u, u < n → (vs u).tk ≠ t + 1 := fun u hu e => by
    obtain ⟨t', ht', e', _, _, hw'⟩ := h.c u hu (by omega)
    obtain rfl : t' = t := by omega
    exact hw' hw
  refine ⟨⟨fun h0 => absurd rfl h0, fun u hu => ?_, fun u hu hk => ?_, fun u u' hu hu' hk e => ?_, fun u hu ho hx hw' => ?_, fun u hu ho => ?_, fun u hu => ?_⟩, t, ht, hts, by rw [hw]; exact g1, hoff, hw, fun u hu ho e => h.own hu ht ho hoff (by rw [← e, hw])⟩
  · obtain ⟨h1, h2, h3⟩ := h.b u hu
    by_cases e : u = s
    · subst e
      rw [hv.1, hv.2.1] at h2
      simp at h2
    · rw [updV_ne _ _ e]
      refine ⟨h1, h2, fun ho => ?_⟩
      have := (h.g u h1 ho).2
      omega
  · by_cases e : u = s
    · subst e
      rw [updV_same, hv'.2.2]
      refine ⟨t, ht, by rw [hw]; exact g1, ?_⟩
      rw [updV_ne _ _ hts]
      exact ⟨hoff, hxt, by omega⟩
    · rw [updV_ne _ _ e] at hk ⊢
      obtain ⟨t', h1, h2, h3, h4, h5⟩ := h.c u hu hk
      have hts' : t' ≠ s := fun e => by subst e; rw [hv.1] at h3; cases h3
      refine ⟨t', h1, h2, ?_⟩
      rw [updV_ne _ _ hts']
      have := (h.g t' h1 h3).2
      exact ⟨h3, h4, by omega⟩
  · by_cases e1 : u = s
    · by_cases e2 : u' = s
      · rw [e1, e2]
      · rw [e1, updV_same, updV_ne _ _ e2, hv'.2.2, hw, g1] at e
        exact absurd e.symm (hnt u' hu')
    · by_cases e2 : u' = s
      · rw [e2, updV_same, updV_ne _ _ e1, hv'.2.2, hw, g1] at e
        exact absurd e (hnt u hu)
      · rw [updV_ne _ _ e1] at hk e
        rw [updV_ne _ _ e2] at e
        exact h.d u u' hu hu' hk e
  · by_cases e1 : u = s
    · subst e1
      rw [updV_same, hv'.1] at ho
      cases ho
    · rw [updV_ne _ _ e1] at ho hw'
      by_cases e2 : u = t
      · subst e2
        exact ⟨s, hs, by rw [updV_same, hv'.2.2, hw]; exact g1⟩
      · obtain ⟨s', h1, h2⟩ := h.e u hu ho hx fun e => e2 (h.own hu ht ho hoff (by rw [← e, hw]))
        have : s' ≠ s := fun e => by subst e; rw [hv.2.2] at h2; omega
        exact ⟨s', h1, by rw [updV_ne _ _ this]; exact h2⟩
  · by_cases e1 : u = s
    · subst e1
      rw [updV_same, hv'.1] at ho
      cases ho
    · rw [updV_ne _ _ e1] at ho ⊢
      exact h.g u hu ho
  · by_cases e1 : u = s
    · subst e1
      rw [updV_same, hv'.1]
      simp
    · rw [updV_ne _ _ e1]
      exact h.k u hu

theorem TrV.put (h : TrV n vs c0 x) {s : Nat} (hs : s < n) (hv : (vs s).off = false ∧ (vs s).clr = false ∧ (vs s).tk ≠ 0) {v' : VZt} (hv' : v'.off = false ∧ v'.clr = false ∧ v'.tk = 0) {N : Int} (hN : N ≠ 0) :
    ∃ t : Nat, t < n ∧ t ≠ s ∧ (vs s).tk = t + 1 ∧ x t = 0 ∧ TrV n (updV vs s v') c0 (updV x t N) := by
  obtain ⟨t, ht, htk, hoff, hxt, hcw⟩ := h.c s hs hv.2.2
  have hts : t ≠ s := fun e => by subst e; rw [hv.1] at hoff; cases hoff
  refine ⟨t, ht, hts, htk, hxt, fun h0 => ?_, fun u hu => ?_, fun u hu hk => ?_, fun u u' hu hu' hk e => ?_, fun u hu ho hx hw' => ?_, fun u hu ho => ?_, fun u hu => ?_⟩
  · obtain ⟨u, h1, h2, h3⟩ := h.a h0
    have : u ≠ s := fun e => by subst e; rw [hv.1] at h2; cases h2
    exact ⟨u, h1, by rw [updV_ne _ _ this]; exact ⟨h2, h3⟩⟩
  · by_cases e : u = t
    · subst e
      rw [updV_ne _ _ hts]
      exact ⟨ht, .inl hoff, fun _ => hcw⟩
    · rw [updV_ne _ _ e] at hu
      obtain ⟨h1, h2, h3⟩ := h.b u hu
      have : u ≠ s := fun e => by subst e; rw [hv.1, hv.2.1] at h2; simp at h2
      rw [updV_ne _ _ this]
      exact ⟨h1, h2, h3⟩
  · by_cases e : u = s
    · subst e
      rw [updV_same, hv'.2.2] at hk
      exact absurd rfl hk
    · rw [updV_ne _ _ e] at hk ⊢
      obtain ⟨t', h1, h2, h3, h4, h5⟩ := h.c u hu hk
      have hts' : t' ≠ s := fun e => by subst e; rw [hv.1] at h3; cases h3
      have htt : t' ≠ t := fun e' => by subst e'; exact e (h.d u s hu hs hk (by rw [h2, htk]))
      refine ⟨t', h1, h2, ?_⟩
      rw [updV_ne _ _ hts', updV_ne _ _ htt]
      exact ⟨h3, h4, h5⟩
  · by_cases e1 : u = s
    · rw [e1, updV_same, hv'.2.2] at hk
      exact absurd rfl hk
    · by_cases e2 : u' = s
      · rw [e2, updV_same, hv'.2.2] at e
        exact absurd e hk
      · rw [updV_ne _ _ e1] at hk e
        rw [updV_ne _ _ e2] at e
        exact h.d u u' hu hu' hk e
  · by_cases e1 : u = s
    · subst e1
      rw [updV_same, hv'.1] at ho
      cases ho
    · rw [updV_ne _ _ e1] at ho hw'
      by_cases e2 : u = t
      · subst e2
        rw [updV_same] at hx
        exact absurd hx hN
      · rw [updV_ne _ _ e2] at hx
        obtain ⟨s', h1, h2⟩ := h.e u hu ho hx hw'
        have : s' ≠ s := fun e => by subst e; omega
        exact ⟨s', h1, by rw [updV_ne _ _ this]; exact h2⟩
  · by_cases e1 : u = s
    · subst e1
      rw [updV_same, hv'.1] at ho
      cases ho
    · rw [updV_ne _ _ e1] at ho ⊢
      exact h.g u hu ho
  · by_cases e1 : u = s
    · subst e1
      rw [updV_same, hv'.1]
      simp
    · rw [updV_ne _ _ e1]
      exact h.k u hu

theorem TrV.offer (h : TrV n vs 0 x) {s : Nat} (hs : s < n) (hv : (vs s).off = false ∧ (vs s).clr = false ∧ (vs s).tk = 0) {v' : VZt} (hv' : v'.off = true ∧ v'.clr = false ∧ v'.tk = 0) (hw : v'.w % 65536 = s + 1 ∧ 65536 ≤ v'.w) :
    TrV n (updV vs s v') v'.w x ∧ ∀ u, u < n → u ≠ s → (vs u).off = true → v'.w ≠ (vs u).w := by
  have hne : ∀ u, u < n → u ≠ s → (vs u).off = true → v'.w ≠ (vs u).w := fun u hu hus ho e => by
    have := (h.g u hu ho).1
    omega
  have hxs : x s = 0 := Classical.byContradiction fun hne => by
    have := (h.b s hne).2.1
    rw [hv.1, hv.2.1] at this
    simp at this
  refine ⟨⟨fun _ => ⟨s, hs, by rw [updV_same]; exact ⟨hv'.1, rfl⟩⟩, fun u hu => ?_, fun u hu hk => ?_, fun u u' hu hu' hk e => ?_, fun u hu ho hx hw' => ?_, fun u hu ho => ?_, fun u hu => ?_⟩, hne⟩
  · obtain ⟨h1, h2, h3⟩ := h.b u hu
    have : u ≠ s := fun e => by subst e; exact hu hxs
    rw [updV_ne _ _ this]
    exact ⟨h1, h2, hne u h1 this⟩
  · by_cases e : u = s
    · subst e
      rw [updV_same, hv'.2.2] at hk
      exact absurd rfl hk
    · rw [updV_ne _ _ e] at hk ⊢
      obtain ⟨t', h1, h2, h3, h4, h5⟩ := h.c u hu hk
      have hts' : t' ≠ s := fun e => by subst e; rw [hv.1] at h3; cases h3
      refine ⟨t', h1, h2, ?_⟩
      rw [updV_ne _ _ hts']
      exact ⟨h3, h4, hne t' h1 hts' h3⟩
  · by_cases e1 : u = s
    · rw [e1, updV_same, hv'.2.2] at hk
      exact absurd rfl hk
    · by_cases e2 : u' = s
      · rw [e2, updV_same, hv'.2.2] at e
        exact absurd e hk
      · rw [updV_ne _ _ e1] at hk e
        rw [updV_ne _ _ e2] at e
        exact h.d u u' hu hu' hk e
  · by_cases e1 : u = s
    · subst e1
      rw [updV_same] at hw'
      exact absurd rfl hw'
    · rw [updV_ne _ _ e1] at ho hw'
      obtain ⟨s', h1, h2⟩ := h.e u hu ho hx (by have := (h.g u hu ho).2; omega)
      have : s' ≠ s := fun e => by subst e; rw [hv.2.2] at h2; omega
      exact ⟨s', h1, by rw [updV_ne _ _ this]; exact h2⟩
  · by_cases e1 : u = s
    · subst e1
      rw [updV_same]
      exact hw
    · rw [updV_ne _ _ e1] at ho ⊢
      exact h.g u hu ho
  · by_cases e1 : u = s
    · subst e1
      rw [updV_same, hv'.2.1]
      simp
    · rw [updV_ne _ _ e1]
      exact h.k u hu

theorem TrV.seen (h : TrV n vs c0 x) {s : Nat} (hs : s < n) (hv : (vs s).off = true ∧ (vs s).tk = 0) (hx : x s ≠ 0) {v' : VZt} (hv' : v'.off = false ∧ v'.clr = true ∧ v'.tk = 0) : TrV n (updV vs s v') c0 x := by
  obtain ⟨_, _, hcw⟩ := h.b s hx
  have hcw := hcw hv.1
  refine ⟨fun h0 => ?_, fun u hu => ?_, fun u hu hk => ?_, fun u u' hu hu' hk e => ?_, fun u hu ho hx hw' => ?_, fun u hu ho => ?_, fun u hu => ?_⟩
  · obtain ⟨u, h1, h2, h3⟩ := h.a h0
    have : u ≠ s := fun e => by subst e; exact hcw h3
    exact ⟨u, h1, by rw [updV_ne _ _ this]; exact ⟨h2, h3⟩⟩
  · obtain ⟨h1, h2, h3⟩ := h.b u hu
    by_cases e : u = s
    · subst e
      rw [updV_same, hv'.1, hv'.2.1]
      exact ⟨h1, .inr rfl, fun h => by cases h⟩
    · rw [updV_ne _ _ e]
      exact ⟨h1, h2, h3⟩
  · by_cases e : u = s
    · subst e
      rw [updV_same, hv'.2.2] at hk
      exact absurd rfl hk
    · rw [updV_ne _ _ e] at hk ⊢
      obtain ⟨t', h1, h2, h3, h4, h5⟩ := h.c u hu hk
      have hts' : t' ≠ s := fun e => by subst e; exact hx h4
      refine ⟨t', h1, h2, ?_⟩
      rw [updV_ne _ _ hts']
      exact ⟨h3, h4, h5⟩
  · by_cases e1 : u = s
    · rw [e1, updV_same, hv'.2.2] at hk
      exact absurd rfl hk
    · by_cases e2 : u' = s
      · rw [e2, updV_same, hv'.2.2] at e
        exact absurd e hk
      · rw [updV_ne _ _ e1] at hk e
        rw [updV_ne _ _ e2] at e
        exact h.d u u' hu hu' hk e
  · by_cases e1 : u = s
    · subst e1
      rw [updV_same, hv'.1] at ho
      cases ho
    · rw [updV_ne _ _ e1] at ho hw'
      obtain ⟨s', h1, h2⟩ := h.e u hu ho hx hw'
      have : s' ≠ s := fun e => by subst e; rw [hv.2] at h2; omega
      exact ⟨s', h1, by rw [updV_ne _ _ this]; exact h2⟩
  · by_cases e1 : u = s
    · subst e1
      rw [updV_same, hv'.1] at ho
      cases ho
    · rw [updV_ne _ _ e1] at ho ⊢
      exact h.g u hu ho
  · by_cases e1 : u = s
    · subst e1
      rw [updV_same, hv'.1]
      simp
    · rw [updV_ne _ _ e1]
      exact h.k u hu

theorem TrV.clear (h : TrV n vs c0 x) {s : Nat} (hs : s < n) (hv : (vs s).off = false ∧ (vs s).tk = 0) {v' : VZt} (hv' : v'.off = false ∧ v'.clr = false ∧ v'.tk = 0) : TrV n (updV vs s v') c0 (updV x s 0) := by
  refine ⟨fun h0 => ?_, fun u hu => ?_, fun u hu hk => ?_, fun u u' hu hu' hk e => ?_, fun u hu ho hx hw' => ?_, fun u hu ho => ?_, fun u hu => ?_⟩
  · obtain ⟨u, h1, h2, h3⟩ := h.a h0
    have : u ≠ s := fun e => by subst e; rw [hv.1] at h2; cases h2
    exact ⟨u, h1, by rw [updV_ne _ _ this]; exact ⟨h2, h3⟩⟩
  · by_cases e : u = s
    · subst e
      rw [updV_same] at hu
      exact absurd rfl hu
    · rw [updV_ne _ _ e] at hu ⊢
      exact h.b u hu
  · by_cases e : u = s
    · subst e
      rw [updV_same, hv'.2.2] at hk
      exact absurd rfl hk
    · rw [updV_ne _ _ e] at hk ⊢
      obtain ⟨t', h1, h2, h3, h4, h5⟩ := h.c u hu hk
      have hts' : t' ≠ s := fun e => by subst e; rw [hv.1] at h3; cases h3
      refine ⟨t', h1, h2, ?_⟩
      rw [updV_ne _ _ hts', updV_ne _ _ hts']
      exact ⟨h3, h4, h5⟩
  · by_cases e1 : u = s
    · rw [e1, updV_same, hv'.2.2] at hk
      exact absurd rfl hk
    · by_cases e2 : u' = s
      · rw [e2, updV_same, hv'.2.2] at e
        exact absurd e hk
      · rw [updV_ne _ _ e1] at hk e
        rw [updV_ne _ _ e2] at e
        exact h.d u u' hu hu' hk e
  · by_cases e1 : u = s
    · subst e1
      rw [updV_same, hv'.1] at ho
      cases ho
    · rw [updV_ne _ _ e1] at ho hw' hx
      obtain ⟨s', h1, h2⟩ := h.e u hu ho hx hw'
      have : s' ≠ s := fun e => by subst e; rw [hv.2] at h2; omega
      exact ⟨s', h1, by rw [updV_ne _ _ this]; exact h2⟩
  · by_cases e1 : u = s
    · subst e1
      rw [updV_same, hv'.1] at ho
      cases ho
    · rw [updV_ne _ _ e1] at ho ⊢
      exact h.g u hu ho
  · by_cases e1 : u = s
    · subst e1
      rw [updV_same, hv'.1]
      simp
    · rw [updV_ne _ _ e1]
      exact h.k u hu

end
end Go.Mac
