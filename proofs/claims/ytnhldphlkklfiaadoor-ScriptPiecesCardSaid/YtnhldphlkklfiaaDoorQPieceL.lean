/- Pieces: what a machine has done stays, and more is put behind it. -/
import Derived.Test.YtnhldphlkklfiaaDoorGFinish
open Go Go.Proofs Go.Mac
set_option maxRecDepth 100000
namespace Go.Mac

/-- Acts and events are put behind; at most one step. -/
structure Ext (m m' : MZ) (b : Nat) : Prop where
  al : m.al <+: m'.al
  el : m.el <+: m'.el
  k : m'.k ≤ m.k + b

theorem Ext.refl (m : MZ) (b : Nat) : Ext m m b := ⟨List.prefix_refl _, List.prefix_refl _, by omega⟩

theorem Ext.trans {m m' m'' : MZ} {a b : Nat} (h : Ext m m' a) (h' : Ext m' m'' b) : Ext m m'' (a + b) :=
  ⟨h.al.trans h'.al, h.el.trans h'.el, by have := h.k; have := h'.k; omega⟩

theorem farZ_ext {m : MZ} {t : Nat} {x : ThZ} {i : InsZ} {m' : MZ} (h : farZ m t x i = some m') : Ext m m' 0 := by
  have al : ∀ {y : MZ} {a b c d e : Int}, y.al = m.al → y.el = m.el → y.k = m.k → Ext m (y.act a b c d e) 0 := fun h1 h2 h3 =>
    ⟨by show m.al <+: _ ++ _; rw [h1]; exact List.prefix_append _ _, by show m.el <+: _; rw [show (MZ.act _ _ _ _ _ _).el = m.el from h2]; exact List.prefix_refl _, by show _ ≤ m.k + 0; exact Nat.le_of_eq h3⟩
  have same : ∀ {y : MZ}, y.al = m.al → y.el = m.el → y.k = m.k → Ext m y 0 := fun h1 h2 h3 => ⟨h1 ▸ List.prefix_refl _, h2 ▸ List.prefix_refl _, Nat.le_of_eq h3⟩
  rw [farZ] at h
  split at h
  · obtain rfl := Option.some.inj h
    exact al rfl rfl rfl
  split at h
  · obtain rfl := Option.some.inj h
    exact al rfl rfl rfl
  split at h
  · split at h
    · obtain rfl := Option.some.inj h
      exact al rfl rfl rfl
    · obtain rfl := Option.some.inj h
      exact al rfl rfl rfl
  split at h
  · split at h
    · obtain rfl := Option.some.inj h
      exact same rfl rfl rfl
    · obtain rfl := Option.some.inj h
      exact same rfl rfl rfl
  split at h
  · obtain rfl := Option.some.inj h
    exact ⟨List.prefix_refl _, List.prefix_append _ _, Nat.le_refl _⟩
  split at h
  · cases h
  split at h
  · split at h
    · obtain rfl := Option.some.inj h
      exact same rfl rfl rfl
    · obtain rfl := Option.some.inj h
      exact al rfl rfl rfl
  · cases h

theorem stepZ_ext (m : MZ) (t : Int) : Ext m (stepZ m t).2 1 := by
  rw [stepZ]
  split
  · exact Ext.refl m 1
  split
  · exact Ext.refl m 1
  split
  · exact Ext.refl m 1
  split
  · exact Ext.refl m 1
  have h0 : Ext m (onZ m t.toNat) 1 := ⟨List.prefix_refl _, List.prefix_refl _, Nat.le_refl _⟩
  rw [goZ, doZ]
  split
  · exact ⟨List.prefix_refl _, List.prefix_refl _, Nat.le_refl _⟩
  split
  · rename_i hf
    exact h0.trans (farZ_ext hf)
  · exact ⟨List.prefix_refl _, List.prefix_refl _, Nat.le_refl _⟩

theorem movesZ_ext : ∀ (l : List MoveZ) (m : MZ), Ext m (movesZ m l) l.length
  | [], m => Ext.refl m 0
  | x :: l, m => by
    have h1 : Ext m (moveZ m x) 1 := by
      rw [moveZ]
      split
      · exact ⟨List.prefix_refl _, List.prefix_refl _, Nat.le_succ _⟩
      · exact stepZ_ext m x.th
    have h2 := h1.trans (movesZ_ext l (moveZ m x))
    rw [Nat.add_comm] at h2
    exact h2

end Go.Mac
