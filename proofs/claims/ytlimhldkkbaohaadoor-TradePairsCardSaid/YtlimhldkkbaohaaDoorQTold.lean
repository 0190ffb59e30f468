/- How many answers a thread was told is how many of its calls are over, where each call's body says one thing, at its end. -/
import Derived.Test.YtlimhldkkbaohaaDoorQCells
import Derived.Test.YtlimhldkkbaohaaDoorQAnswers
open Go Go.Proofs Go.Mac
set_option maxRecDepth 100000
namespace Go.Mac

/-- A body whose last instruction alone says something, and whose jumps stay ahead of its end. -/
def sayB (B : List InsZ) : Bool := (List.range B.length).all fun o => match B[o]? with
  | some i => if i.op = 16 then decide (i.a = 3) && decide (o + 1 = B.length) else decide (o + 1 ≠ B.length) && (decide (i.op ≠ 10) || decide (i.a ≠ B.length)) && (decide (i.op ≠ 11 ∧ i.op ≠ 12 ∧ i.op ≠ 13) || decide (i.c ≠ B.length))
  | none => true

theorem sayB_at {B : List InsZ} (h : sayB B = true) {o : Nat} {i : InsZ} (hi : B[o]? = some i) :
    (i.op = 16 → i.a = 3 ∧ o + 1 = B.length) ∧ (i.op ≠ 16 → o + 1 ≠ B.length ∧ (i.op = 10 → i.a ≠ B.length) ∧ (i.op = 11 ∨ i.op = 12 ∨ i.op = 13 → i.c ≠ B.length)) := by
  have hl := (List.getElem?_eq_some_iff.1 hi).1
  have := List.all_eq_true.1 h o (List.mem_range.2 hl)
  simp only [hi] at this
  by_cases h16 : i.op = 16
  · rw [if_pos h16] at this
    simp only [Bool.and_eq_true, decide_eq_true_eq] at this
    exact ⟨fun _ => this, fun h => absurd h16 h⟩
  · rw [if_neg h16] at this
    simp only [Bool.and_eq_true, Bool.or_eq_true, decide_eq_true_eq] at this
    obtain ⟨⟨a1, a2⟩, a3⟩ := this
    refine ⟨fun h => absurd h h16, fun _ => ⟨a1, fun h10 => ?_, fun h11 => ?_⟩⟩
    · rcases a2 with a2 | a2
      · exact absurd h10 a2
      · exact a2
    · rcases a3 with a3 | a3
      · omega
      · exact a3

theorem nextW_16 {i : InsZ} {x : ThZ} {ws : List Int} (h : i.op = 16) : nextW i x ws = (⟨x.pc + 1, x.rg, x.dn⟩, ws, .say i.a (IntKind.i64.wrap (rgZ x.rg i.b))) := by
  obtain ⟨op, a, b, c, d⟩ := i
  dsimp only at h
  subst h
  rfl

theorem nextW_not {i : InsZ} {x y : ThZ} {ws ws' : List Int} {e : EffW} (h : i.op ≠ 16) (hn : nextW i x ws = (y, ws', e)) :
    (∀ a v, e ≠ .say a v) ∧ (y.pc = x.pc + 1 ∨ (i.op = 10 ∧ y.pc = i.a.toNat) ∨ ((i.op = 11 ∨ i.op = 12 ∨ i.op = 13) ∧ y.pc = i.c.toNat)) := by
  rw [nextW] at hn
  split at hn
  · rename_i x' hl
    cases hn
    refine ⟨fun _ _ h => (by cases h), ?_⟩
    rw [localZ] at hl
    by_cases h0 : i.op = 0
    · rw [if_pos h0] at hl
      have h9 := Option.some.inj hl
      rw [← h9]
      exact .inl rfl
    rw [if_neg h0] at hl
    by_cases h1 : i.op = 1
    · rw [if_pos h1] at hl
      have h9 := Option.some.inj hl
      rw [← h9]
      exact .inl rfl
    rw [if_neg h1] at hl
    by_cases h2 : i.op = 2
    · rw [if_pos h2] at hl
      have h9 := Option.some.inj hl
      rw [← h9]
      exact .inl rfl
    rw [if_neg h2] at hl
    by_cases h3 : i.op = 3
    · rw [if_pos h3] at hl
      have h9 := Option.some.inj hl
      rw [← h9]
      exact .inl rfl
    rw [if_neg h3] at hl
    by_cases h4 : i.op = 4
    · rw [if_pos h4] at hl
      have h9 := Option.some.inj hl
      rw [← h9]
      exact .inl rfl
    rw [if_neg h4] at hl
    by_cases h5 : i.op = 5
    · rw [if_pos h5] at hl
      have h9 := Option.some.inj hl
      rw [← h9]
      exact .inl rfl
    rw [if_neg h5] at hl
    by_cases h10 : i.op = 10
    · rw [if_pos h10] at hl
      have h9 := Option.some.inj hl
      rw [← h9]
      exact .inr (.inl ⟨h10, rfl⟩)
    rw [if_neg h10] at hl
    by_cases h11 : i.op = 11
    · rw [if_pos h11] at hl
      have h9 := Option.some.inj hl
      rw [← h9]
      split
      · exact .inr (.inr ⟨by omega, rfl⟩)
      · exact .inl rfl
    rw [if_neg h11] at hl
    by_cases h12 : i.op = 12
    · rw [if_pos h12] at hl
      have h9 := Option.some.inj hl
      rw [← h9]
      split
      · exact .inr (.inr ⟨by omega, rfl⟩)
      · exact .inl rfl
    rw [if_neg h12] at hl
    by_cases h13 : i.op = 13
    · rw [if_pos h13] at hl
      have h9 := Option.some.inj hl
      rw [← h9]
      split
      · exact .inr (.inr ⟨by omega, rfl⟩)
      · exact .inl rfl
    rw [if_neg h13] at hl
    cases hl
  · repeat' split at hn
    all_goals cases hn
    all_goals first
      | exact ⟨fun _ _ h => (by cases h), .inl rfl⟩
      | (refine ⟨fun _ _ h => ?_, .inl rfl⟩; split at h <;> cases h)
      | (exfalso; exact h (by assumption))

section
variable {n nc : Nat} {bs : Nat → List (List InsZ)} {gs : Nat → GZ} {ws : List Int} {m : MZ}

/-- So many answers as calls that are over. -/
def ToldW (n : Nat) (gs : Nat → GZ) (el : List EvZ) : Prop := ∀ s, s < n → (ansT s el).length = (gs s).j

theorem ToldW.step (hT : ToldW n gs m.el) (h : SysW n nc bs gs ws m) {t : Nat} {i : InsZ} (hb : ∀ b ∈ bs t, sayB b = true) (hc : canZ m t = true) (hk : m.k < 20000) (hi : insG (bs t) (gs t) = some i) (ho : cellsC nc (gs t).y i)
    {y' : ThZ} {ws' : List Int} {e : EffW} (hn : nextW i (gs t).y ws = (y', ws', e)) : ToldW n (updG gs t (normG (bs t) ⟨(gs t).j, y'⟩)) (stepZ m t).2.el := by
  obtain ⟨_, _, _, hel, _⟩ := h.go hc hk hi ho hn
  rw [hel]
  intro s hs
  have hT := hT s hs
  by_cases h16 : i.op = 16
  · rw [nextW_16 h16] at hn
    cases hn
    show (ansT s (m.el ++ [⟨((m.k + 1 : Nat) : Int), i.a, (t : Int), _⟩])).length = _
    rw [ansT_snoc]
    rw [insG] at hi
    split at hi
    · rename_i b hbj
      obtain ⟨ha, hp⟩ := (sayB_at (hb b (List.mem_of_getElem? hbj)) hi).1 h16
      by_cases hst : s = t
      · subst hst
        rw [if_pos ⟨ha, rfl⟩, List.length_append, hT, updG_same, normG, hbj]
        dsimp only
        rw [if_pos hp]
        rfl
      · rw [if_neg (fun h => hst (by have := h.2; dsimp only at this; omega)), updG_ne _ _ hst]
        exact hT
    · split at hi
      · cases hi
        cases h16
      · cases hi
  · obtain ⟨he, hpc⟩ := nextW_not h16 hn
    have hsame : effWE (m.k + 1) t m.el e = m.el := by
      cases e with
      | say a v => exact absurd rfl (he a v)
      | _ => rfl
    rw [hsame]
    by_cases hst : s = t
    · subst hst
      rw [updG_same, hT]
      rw [insG] at hi
      rw [normG]
      split at hi
      · rename_i b hbj
        obtain ⟨q1, q2, q3⟩ := (sayB_at (hb b (List.mem_of_getElem? hbj)) hi).2 h16
        rw [hbj]
        dsimp only
        have hne : y'.pc ≠ b.length := by
          have hac : (i.op = 10 → 0 ≤ i.a) ∧ (i.op = 11 ∨ i.op = 12 ∨ i.op = 13 → 0 ≤ i.c) := by
            unfold cellsC at ho
            rcases ho with g | g | g | g | g | g | ⟨g, g'⟩ | ⟨g, g'⟩ | ⟨g, _⟩ | ⟨g, _⟩ | g | ⟨g, _⟩ <;> constructor <;> intro g2 <;> omega
          clear ho
          rcases hpc with hpc | ⟨h10, hpc⟩ | ⟨h11, hpc⟩
          · rw [hpc]; exact q1
          · have := q2 h10
            have := hac.1 h10
            rw [hpc]
            omega
          · have := q3 h11
            have := hac.2 h11
            rw [hpc]
            omega
        rw [if_neg hne]
      · rename_i hbj
        rw [hbj]
    · rw [updG_ne _ _ hst]
      exact hT

end

end Go.Mac
