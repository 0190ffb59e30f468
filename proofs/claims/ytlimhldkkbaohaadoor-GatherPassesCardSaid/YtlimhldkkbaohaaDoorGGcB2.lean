/- Texts that belong together; the first of them: Threads that ask a phaser: each step keeps what holds. -/
import Derived.Test.YtlimhldkkbaohaaDoorGGcA

/- Threads that ask a phaser: each step keeps what holds. -/
section
open Go Go.Proofs Go.Mac
set_option maxRecDepth 100000
namespace Go.Mac

theorem WD.mono {v v' r : Int} (hv : v < 9223372036854775808) (h : WD v r) : WD v' r := ⟨h.1, h.2.1, h.2.2.1, fun ho => by have := h.2.2.2 ho; omega⟩

theorem ovOk.mono {v v' : Int} {o : Nat} {r1 r2 : Int} (hv : v < 9223372036854775808) (h : ovOk v o r1 r2) : ovOk v' o r1 r2 := ⟨fun ho => (h.1 ho).mono hv, h.2⟩

theorem gOk_mono {c : CallZ} {v v' : Int} {o : Nat} {r1 r2 r3 r4 : Int} (hv : v < 9223372036854775808) (h : gOk c v o r1 r2 r3 r4) : gOk c v' o r1 r2 r3 r4 := by
  unfold gOk at h ⊢
  split
  · rename_i h6
    rw [if_pos h6] at h
    exact ⟨h.1, h.2.1.mono hv, h.2.2⟩
  rename_i h6
  rw [if_neg h6] at h
  split
  · rename_i h10
    rw [if_pos h10] at h
    exact ⟨h.1, fun ho => ⟨(h.2 ho).1, (h.2 ho).2.1.mono hv, (h.2 ho).2.2⟩⟩
  rename_i h10
  rw [if_neg h10] at h
  split
  · rename_i h11
    rw [if_pos h11] at h
    exact ⟨h.1, h.2.1.mono hv, h.2.2⟩
  rename_i h11
  rw [if_neg h11] at h
  split
  · rename_i h9
    rw [if_pos h9] at h
    exact ⟨h.1, fun ho => ⟨(h.2.1 ho).1.mono hv, (h.2.1 ho).2⟩, fun ho => ⟨(h.2.2 ho).1, (h.2.2 ho).2.1.mono hv, (h.2.2 ho).2.2⟩⟩
  · rename_i h9
    rw [if_neg h9] at h
    exact ⟨h.1, fun ho => ⟨(h.2 ho).1.mono hv, (h.2 ho).2⟩⟩

theorem GcG.mono {l : List CallZ} {v v' : Int} {g : GZ} (hv : v < 9223372036854775808) (h : GcG l v g) : GcG l v' g := by
  obtain ⟨r1, r2, r3, r4, r5, h1, h2⟩ := h
  refine ⟨r1, r2, r3, r4, r5, h1, ?_⟩
  rcases h2 with h2 | ⟨h2, ⟨c, h3, h4⟩ | h3⟩
  · exact .inl h2
  · exact .inr ⟨h2, .inl ⟨c, h3, gOk_mono hv h4⟩⟩
  · exact .inr ⟨h2, .inr h3⟩

structure GcJ (B n : Nat) (ls : Nat → List CallZ) (gs : Nat → GZ) (v : Int) (m : MZ) : Prop where
  sys : SysW n 1 (fun t => (ls t).map bodyG) gs [v] m
  hn : n ≤ 8
  hf : ∀ t, t < n → ∀ c ∈ ls t, gFit c
  th : ∀ t, t < n → GcG (ls t) v (gs t)
  rw : v < 9223372036854775808 → RW v
  sl : ∀ s ∈ m.ss, s.c = 0 ∧ (∃ c, (ls s.t.toNat)[(gs s.t.toNat).j]? = some c ∧ (c.w = 10 ∧ (gs s.t.toNat).y.pc = 8 ∨ c.w = 9 ∧ (gs s.t.toNat).y.pc = 36)) ∧ (gs s.t.toNat).y.dn = false
  jn : m.ss ≠ [] → 9223372036854775808 ≤ v → ∃ t, t < n ∧ gwG (ls t) (gs t) = true
  pot : m.k + (rsum n (fun t => glG v (ls t) (gs t)) + 10 * (n - m.ss.length)) ≤ B

section
variable {B n : Nat} {ls : Nat → List CallZ} {gs : Nat → GZ} {v : Int} {m : MZ}

theorem GcJ.val (h : GcJ B n ls gs v m) : WD v v := by
  have hw := h.sys.wf.ws.2 v (by rw [h.sys.ws]; simp)
  exact ⟨hw.1, hw.2, h.rw, fun h => h⟩

theorem gc_upd (h : GcJ B n ls gs v m) {t : Nat} (hc : canZ m t = true) (hk : m.k < 20000) {g' : GZ} {v' : Int} {e : EffW} (hl : LS 1 ((ls t).map bodyG) (gs t) [v] g' [v'] e) (hT : GcG (ls t) v' g') (hV : v' = v ∨ v < 9223372036854775808) {d : Nat} (hd : v' = v ∧ d = 0 ∨ d = 20) (hrw : v' < 9223372036854775808 → RW v')
    (hsl : ∀ s ∈ effWS t m.ss e, s ∈ m.ss ∨ s = ⟨t, 0⟩ ∧ (∃ c, (ls t)[g'.j]? = some c ∧ (c.w = 10 ∧ g'.y.pc = 8 ∨ c.w = 9 ∧ g'.y.pc = 36)) ∧ g'.y.dn = false)
    (hjn : effWS t m.ss e ≠ [] → 9223372036854775808 ≤ v' → ∃ s, s < n ∧ gwG (ls s) (updG gs t g' s) = true)
    (hp : glG v' (ls t) g' + 10 * m.ss.length + 8 * d + 1 ≤ glG v (ls t) (gs t) + 10 * (effWS t m.ss e).length) : GcJ B n ls (updG gs t g') v' (stepZ m t).2 := by
  obtain ⟨ht, hdn, hno⟩ := h.sys.can hc
  obtain ⟨hs, e1, e2, e3, e4⟩ := h.sys.ls hc hk rfl hl
  have hn8 := h.hn
  have hl1 := ss_len h.sys.wf
  have hl2 := ss_len hs.wf
  rw [h.sys.ln] at hl1
  rw [hs.ln, e1] at hl2
  refine ⟨hs, h.hn, h.hf, fun s hsn => ?_, hrw, fun s hsm => ?_, by rw [e1]; exact hjn, ?_⟩
  · by_cases hst : s = t
    · subst hst; rw [updG_same]; exact hT
    · rw [updG_ne _ _ hst]
      rcases hV with rfl | hV
      · exact h.th s hsn
      · exact (h.th s hsn).mono hV
  · rw [e1] at hsm
    rcases hsl s hsm with hs' | ⟨rfl, h1, h2⟩
    · obtain ⟨h1, h2⟩ := h.sl s hs'
      have hst : s.t.toNat ≠ t := fun e => by
        have := h.sys.wf.ss.2 s hs'
        exact hno s hs' (by omega)
      rw [updG_ne _ _ hst]
      exact ⟨h1, h2⟩
    · show 0 = 0 ∧ ((∃ c, (ls ((t : Int).toNat))[(updG gs t g' (t : Int).toNat).j]? = some c ∧ (c.w = 10 ∧ (updG gs t g' (t : Int).toNat).y.pc = 8 ∨ c.w = 9 ∧ (updG gs t g' (t : Int).toNat).y.pc = 36)) ∧ _)
      rw [Int.toNat_natCast, updG_same]
      exact ⟨rfl, h1, h2⟩
  · rw [e1, e4]
    have hpot := h.pot
    have hsum := rsum_upd (n := n) (t := t) (g := fun s => glG v' (ls s) (updG gs t g' s)) (h := fun s => glG v (ls s) (gs s) + d) ht fun s _ hne => by
      rw [updG_ne _ _ hne]
      exact glG_mono (by omega) _ _
    try dsimp only at hsum
    rw [updG_same, rsum_plus] at hsum
    have hnd : n * d ≤ 8 * d := Nat.mul_le_mul_right _ hn8
    omega

/-- A step, and where its thread goes. -/
theorem gc_step (h : GcJ B n ls gs v m) {t : Nat} (hc : canZ m t = true) (hk : m.k < 20000) : ∃ g' v' e, LS 1 ((ls t).map bodyG) (gs t) [v] g' [v'] e ∧ (v' = v ∨ v < 9223372036854775808) ∧ GcJ B n ls (updG gs t g') v' (stepZ m t).2 := by
  obtain ⟨ht, hd, hno⟩ := h.sys.can hc
  obtain ⟨g', v', e, hl, hT, hout⟩ := gc_local h.val (h.hf t ht) (h.th t ht) hd
  have hn8 := h.hn
  have hl1 := ss_len h.sys.wf
  rw [h.sys.ln] at hl1
  have kept : ∀ _ : Unit, v' = v → m.ss ≠ [] → (gwG (ls t) (gs t) = true → gwG (ls t) g' = true) → 9223372036854775808 ≤ v' → ∃ s, s < n ∧ gwG (ls s) (updG gs t g' s) = true := fun _ hv hne hw hov => by
    rw [hv] at hov
    obtain ⟨s, hs, hb⟩ := h.jn hne hov
    refine ⟨s, hs, ?_⟩
    by_cases hst : s = t
    · subst hst; rw [updG_same]; exact hw hb
    · rw [updG_ne _ _ hst]; exact hb
  refine ⟨g', v', e, hl, ?_⟩
  cases hout with
  | quiet hv he hw hp =>
    have hss : effWS t m.ss e = m.ss := by rcases he with rfl | ⟨_, _, rfl⟩ | ⟨_, _, rfl⟩ <;> rfl
    refine ⟨.inl hv, gc_upd h hc hk hl hT (.inl hv) (.inl ⟨hv, rfl⟩) (by rw [hv]; exact h.rw) (fun s hs => .inl (by rwa [hss] at hs)) (fun hne hov => kept () hv (by rwa [hss] at hne) hw hov) (by rw [hss]; rw [hv]; omega)⟩
  | sleep hv hr he hw hs hp =>
    subst he
    refine ⟨.inl hv, gc_upd h hc hk hl hT (.inl hv) (.inl ⟨hv, rfl⟩) (by rw [hv]; exact h.rw) (fun s hs' => ?_) (fun _ hov => ?_) ?_⟩
    · rcases List.mem_append.1 hs' with hs' | hs'
      · exact .inl hs'
      · exact .inr ⟨List.mem_singleton.1 hs', hs⟩
    · have := hr.2.1
      omega
    · show _ ≤ _ + 10 * (m.ss ++ [_]).length
      rw [List.length_append, hv]
      simp only [List.length_singleton]
      omega
  | wake hv he hp =>
    subst he
    have hss : effWS t m.ss (.wake 0 16) = [] := wake_all (fun s hs => (h.sl s hs).1) (by omega)
    refine ⟨.inl hv, gc_upd h hc hk hl hT (.inl hv) (.inl ⟨hv, rfl⟩) (by rw [hv]; exact h.rw) (fun s hs' => ?_) (fun hne => absurd hss hne) ?_⟩
    · rw [hss] at hs'
      cases hs'
    · rw [hss, hv]
      simp only [List.length_nil]
      have hlt := nodup_len m.ts.length ((t : Int) :: m.ss.map (·.t)) (List.nodup_cons.2 ⟨fun hm => by
        obtain ⟨s, hs, e⟩ := List.mem_map.1 hm
        exact hno s hs e, h.sys.wf.ss.1⟩) fun x hx => by
          rcases List.mem_cons.1 hx with rfl | hx
          · rw [h.sys.ln]; omega
          · obtain ⟨s, hs, rfl⟩ := List.mem_map.1 hx
            have := h.sys.wf.ss.2 s hs
            omega
      rw [List.length_cons, List.length_map, h.sys.ln] at hlt
      omega
  | swap hr hv he hw hp =>
    subst he
    refine ⟨.inr hr.2.1, gc_upd h hc hk hl hT (.inr hr.2.1) (.inr rfl) hv.2.2 (fun s hs => .inl hs) (fun _ hov => ⟨t, ht, by rw [updG_same]; exact hw hov⟩) ?_⟩
    show _ ≤ _ + 10 * m.ss.length
    omega

end
end Go.Mac
end
