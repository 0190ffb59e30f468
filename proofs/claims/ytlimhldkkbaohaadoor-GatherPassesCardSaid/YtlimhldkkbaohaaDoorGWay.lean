/- Texts that belong together; the first of them: How many answers a thread was told is how many of its calls are over, where each call's body says one thing, at its end. -/
import Derived.Test.YtlimhldkkbaohaaDoorGSys
import Derived.Test.YtlimhldkkbaohaaDoorQAnswers

/- How many answers a thread was told is how many of its calls are over, where each call's body says one thing, at its end. -/
section
open Go Go.Proofs Go.Mac
set_option maxRecDepth 100000
namespace Go.Mac

/-- A body whose last instruction alone says something, and whose jumps stay ahead of its end. -/
def sayB (B : List InsZ) : Bool := (List.range B.length).all fun o => match B[o]? with
  | some i => if i.op = 16 then decide (i.a = 3) && decide (o + 1 = B.length) else decide (o + 1 ≠ B.length) && (decide (i.op ≠ 10) || decide (i.a ≠ B.length)) && (decide (i.op ≠ 11 ∧ i.op ≠ 12 ∧ i.op ≠ 13) || decide (i.c ≠ B.length))
  | none => true

theorem sayB_at {B : List InsZ} (h : sayB B = true) {o : Nat} {i : InsZ} (hi : B[o]? = some i) :
    (i.op = 16 → i.a = 3 ∧ o + 1 = B.length) ∧ (i.op ≠ 16 → o + 1 ≠ B.length ∧ (i.op = 10 → i.a ≠ B.length) ∧ (i.op = 11 ∨ i.op = 12 ∨ i.op = 13 → i.c ≠ B.length)) := by
  have hl := (List.getElem?_eq_some_iff.1 hi).1
  have := List.all_eq_true.1 h o (List.mem_range.2 hl)
  simp only [hi] at this
  by_cases h16 : i.op = 16
  · rw [if_pos h16] at this
    simp only [Bool.and_eq_true, decide_eq_true_eq] at this
    exact ⟨fun _ => this, fun h => absurd h16 h⟩
  · rw [if_neg h16] at this
    simp only [Bool.and_eq_true, Bool.or_eq_true, decide_eq_true_eq] at this
    obtain ⟨⟨a1, a2⟩, a3⟩ := this
    refine ⟨fun h => absurd h h16, fun _ => ⟨a1, fun h10 => ?_, fun h11 => ?_⟩⟩
    · rcases a2 with a2 | a2
      · exact absurd h10 a2
      · exact a2
    · rcases a3 with a3 | a3
      · omega
      · exact a3

theorem nextW_16 {i : InsZ} {x : ThZ} {ws : List Int} (h : i.op = 16) : nextW i x ws = (⟨x.pc + 1, x.rg, x.dn⟩, ws, .say i.a (IntKind.i64.wrap (rgZ x.rg i.b))) := by
  obtain ⟨op, a, b, c, d⟩ := i
  dsimp only at h
  subst h
  rfl

theorem nextW_not {i : InsZ} {x y : ThZ} {ws ws' : List Int} {e : EffW} (h : i.op ≠ 16) (hn : nextW i x ws = (y, ws', e)) :
    (∀ a v, e ≠ .say a v) ∧ (y.pc = x.pc + 1 ∨ (i.op = 10 ∧ y.pc = i.a.toNat) ∨ ((i.op = 11 ∨ i.op = 12 ∨ i.op = 13) ∧ y.pc = i.c.toNat)) := by
  rw [nextW] at hn
  split at hn
  · rename_i x' hl
    cases hn
    refine ⟨fun _ _ h => (by cases h), ?_⟩
    rw [localZ] at hl
    by_cases h0 : i.op = 0
    · rw [if_pos h0] at hl
      have h9 := Option.some.inj hl
      rw [← h9]
      exact .inl rfl
    rw [if_neg h0] at hl
    by_cases h1 : i.op = 1
    · rw [if_pos h1] at hl
      have h9 := Option.some.inj hl
      rw [← h9]
      exact .inl rfl
    rw [if_neg h1] at hl
    by_cases h2 : i.op = 2
    · rw [if_pos h2] at hl
      have h9 := Option.some.inj hl
      rw [← h9]
      exact .inl rfl
    rw [if_neg h2] at hl
    by_cases h3 : i.op = 3
    · rw [if_pos h3] at hl
      have h9 := Option.some.inj hl
      rw [← h9]
      exact .inl rfl
    rw [if_neg h3] at hl
    by_cases h4 : i.op = 4
    · rw [if_pos h4] at hl
      have h9 := Option.some.inj hl
      rw [← h9]
      exact .inl rfl
    rw [if_neg h4] at hl
    by_cases h5 : i.op = 5
    · rw [if_pos h5] at hl
      have h9 := Option.some.inj hl
      rw [← h9]
      exact .inl rfl
    rw [if_neg h5] at hl
    by_cases h10 : i.op = 10
    · rw [if_pos h10] at hl
      have h9 := Option.some.inj hl
      rw [← h9]
      exact .inr (.inl ⟨h10, rfl⟩)
    rw [if_neg h10] at hl
    by_cases h11 : i.op = 11
    · rw [if_pos h11] at hl
      have h9 := Option.some.inj hl
      rw [← h9]
      split
      · exact .inr (.inr ⟨by omega, rfl⟩)
      · exact .inl rfl
    rw [if_neg h11] at hl
    by_cases h12 : i.op = 12
    · rw [if_pos h12] at hl
      have h9 := Option.some.inj hl
      rw [← h9]
      split
      · exact .inr (.inr ⟨by omega, rfl⟩)
      · exact .inl rfl
    rw [if_neg h12] at hl
    by_cases h13 : i.op = 13
    · rw [if_pos h13] at hl
      have h9 := Option.some.inj hl
      rw [← h9]
      split
      · exact .inr (.inr ⟨by omega, rfl⟩)
      · exact .inl rfl
    rw [if_neg h13] at hl
    cases hl
  · repeat' split at hn
    all_goals cases hn
    all_goals first
      | exact ⟨fun _ _ h => (by cases h), .inl rfl⟩
      | (refine ⟨fun _ _ h => ?_, .inl rfl⟩; split at h <;> cases h)
      | (exfalso; exact h (by assumption))

section
variable {n nc : Nat} {bs : Nat → List (List InsZ)} {gs : Nat → GZ} {ws : List Int} {m : MZ}

/-- So many answers as calls that are over. -/
def ToldW (n : Nat) (gs : Nat → GZ) (el : List EvZ) : Prop := ∀ s, s < n → (ansT s el).length = (gs s).j

theorem ToldW.step (hT : ToldW n gs m.el) (h : SysW n nc bs gs ws m) {t : Nat} {i : InsZ} (hb : ∀ b ∈ bs t, sayB b = true) (hc : canZ m t = true) (hk : m.k < 20000) (hi : insG (bs t) (gs t) = some i) (ho : cellsC nc (gs t).y i)
    {y' : ThZ} {ws' : List Int} {e : EffW} (hn : nextW i (gs t).y ws = (y', ws', e)) : ToldW n (updG gs t (normG (bs t) ⟨(gs t).j, y'⟩)) (stepZ m t).2.el := by
  obtain ⟨_, _, _, hel, _⟩ := h.go hc hk hi ho hn
  rw [hel]
  intro s hs
  have hT := hT s hs
  by_cases h16 : i.op = 16
  · rw [nextW_16 h16] at hn
    cases hn
    show (ansT s (m.el ++ [⟨((m.k + 1 : Nat) : Int), i.a, (t : Int), _⟩])).length = _
    rw [ansT_snoc]
    rw [insG] at hi
    split at hi
    · rename_i b hbj
      obtain ⟨ha, hp⟩ := (sayB_at (hb b (List.mem_of_getElem? hbj)) hi).1 h16
      by_cases hst : s = t
      · subst hst
        rw [if_pos ⟨ha, rfl⟩, List.length_append, hT, updG_same, normG, hbj]
        dsimp only
        rw [if_pos hp]
        rfl
      · rw [if_neg (fun h => hst (by have := h.2; dsimp only at this; omega)), updG_ne _ _ hst]
        exact hT
    · split at hi
      · cases hi
        cases h16
      · cases hi
  · obtain ⟨he, hpc⟩ := nextW_not h16 hn
    have hsame : effWE (m.k + 1) t m.el e = m.el := by
      cases e with
      | say a v => exact absurd rfl (he a v)
      | _ => rfl
    rw [hsame]
    by_cases hst : s = t
    · subst hst
      rw [updG_same, hT]
      rw [insG] at hi
      rw [normG]
      split at hi
      · rename_i b hbj
        obtain ⟨q1, q2, q3⟩ := (sayB_at (hb b (List.mem_of_getElem? hbj)) hi).2 h16
        rw [hbj]
        dsimp only
        have hne : y'.pc ≠ b.length := by
          have hac : (i.op = 10 → 0 ≤ i.a) ∧ (i.op = 11 ∨ i.op = 12 ∨ i.op = 13 → 0 ≤ i.c) := by
            unfold cellsC at ho
            rcases ho with g | g | g | g | g | g | ⟨g, g'⟩ | ⟨g, g'⟩ | ⟨g, _⟩ | ⟨g, _⟩ | g | ⟨g, _⟩ <;> constructor <;> intro g2 <;> omega
          clear ho
          rcases hpc with hpc | ⟨h10, hpc⟩ | ⟨h11, hpc⟩
          · rw [hpc]; exact q1
          · have := q2 h10
            have := hac.1 h10
            rw [hpc]
            omega
          · have := q3 h11
            have := hac.2 h11
            rw [hpc]
            omega
        rw [if_neg hne]
      · rename_i hbj
        rw [hbj]
    · rw [updG_ne _ _ hst]
      exact hT

end

end Go.Mac
end

/- Machines of threads whose programs are bodies one behind the other: one step of a thread, told by its body. -/
section
open Go Go.Proofs Go.Mac
set_option maxRecDepth 100000
namespace Go.Mac

/-- What a thread's next step does: to its own place, and to the cells. -/
def LS (nc : Nat) (bl : List (List InsZ)) (g : GZ) (ws : List Int) (g' : GZ) (ws' : List Int) (e : EffW) : Prop :=
  ∃ i y', insG bl g = some i ∧ cellsC nc g.y i ∧ nextW i g.y ws = (y', ws', e) ∧ normG bl ⟨g.j, y'⟩ = g'

theorem SysW.ls {n nc : Nat} {bs : Nat → List (List InsZ)} {gs : Nat → GZ} {ws : List Int} {m : MZ} (h : SysW n nc bs gs ws m) {t : Nat} (hc : canZ m t = true) (hk : m.k < 20000) {g g' : GZ} (hg : gs t = g) {ws' : List Int} {e : EffW} (hl : LS nc (bs t) g ws g' ws' e) :
    SysW n nc bs (updG gs t g') ws' (stepZ m t).2 ∧ (stepZ m t).2.ss = effWS t m.ss e ∧ (stepZ m t).2.al = effWA (m.k + 1) t m.al e ∧ (stepZ m t).2.el = effWE (m.k + 1) t m.el e ∧ (stepZ m t).2.k = m.k + 1 := by
  subst hg
  obtain ⟨i, y', hi, ho, hn, rfl⟩ := hl
  exact h.go hc hk hi ho hn

/-- An instruction on cells that are told as numbers. -/
def cellK (nc : Nat) (i : InsZ) : Bool :=
  decide (i.op = 0 ∨ i.op = 1 ∨ i.op = 2 ∨ i.op = 3 ∨ i.op = 4 ∨ i.op = 5 ∨ (i.op = 10 ∧ 0 ≤ i.a) ∨ ((i.op = 11 ∨ i.op = 12 ∨ i.op = 13) ∧ 0 ≤ i.c) ∨ ((i.op = 6 ∨ i.op = 8 ∨ i.op = 9) ∧ 0 ≤ i.b) ∨ (i.op = 14 ∧ 0 ≤ i.a) ∨ i.op = 16 ∨ ((i.op = 7 ∨ i.op = 15) ∧ i.c = -1 ∧ 0 ≤ i.a ∧ i.a < nc))

theorem cellK_ok {nc : Nat} {i : InsZ} {y : ThZ} (h : cellK nc i = true) : cellsC nc y i := by
  have h := of_decide_eq_true h
  unfold cellsC
  rcases h with h | h | h | h | h | h | h | h | h | h | h | ⟨h, hc, h0, h1⟩
  · exact .inl h
  · exact .inr (.inl h)
  · exact .inr (.inr (.inl h))
  · exact .inr (.inr (.inr (.inl h)))
  · exact .inr (.inr (.inr (.inr (.inl h))))
  · exact .inr (.inr (.inr (.inr (.inr (.inl h)))))
  · exact .inr (.inr (.inr (.inr (.inr (.inr (.inl h))))))
  · exact .inr (.inr (.inr (.inr (.inr (.inr (.inr (.inl h)))))))
  · exact .inr (.inr (.inr (.inr (.inr (.inr (.inr (.inr (.inl h))))))))
  · exact .inr (.inr (.inr (.inr (.inr (.inr (.inr (.inr (.inr (.inl h)))))))))
  · exact .inr (.inr (.inr (.inr (.inr (.inr (.inr (.inr (.inr (.inr (.inl h))))))))))
  · refine .inr (.inr (.inr (.inr (.inr (.inr (.inr (.inr (.inr (.inr (.inr ⟨h, i.a.toNat, ?_, by omega⟩))))))))))
    rw [offZ, if_pos (by omega)]
    exact congrArg some (by omega)

section
variable {κ : Type} {B : κ → List InsZ} {l : List κ} {b : κ} {nc j o o' : Nat} {rg rg' ws ws' : List Int} {e : EffW} {i : InsZ}

/-- A step within a body. -/
theorem LS.inn (hb : l[j]? = some b) (hi : (B b)[o]? = some i) (hc : cellsC nc ⟨o, rg, false⟩ i) (hn : nextW i ⟨o, rg, false⟩ ws = (⟨o', rg', false⟩, ws', e)) (ho : o' < (B b).length) :
    LS nc (l.map B) ⟨j, ⟨o, rg, false⟩⟩ ws ⟨j, ⟨o', rg', false⟩⟩ ws' e := by
  refine ⟨i, _, ?_, hc, hn, ?_⟩
  · rw [insG]
    simp only [List.getElem?_map, hb, Option.map_some]
    exact hi
  · rw [normG]
    simp only [List.getElem?_map, hb, Option.map_some]
    rw [if_neg (by omega)]

/-- A step at a body's end. -/
theorem LS.out (hb : l[j]? = some b) (hi : (B b)[o]? = some i) (hc : cellsC nc ⟨o, rg, false⟩ i) (hn : nextW i ⟨o, rg, false⟩ ws = (⟨o', rg', false⟩, ws', e)) (ho : o' = (B b).length) :
    LS nc (l.map B) ⟨j, ⟨o, rg, false⟩⟩ ws ⟨j + 1, ⟨0, rg', false⟩⟩ ws' e := by
  refine ⟨i, _, ?_, hc, hn, ?_⟩
  · rw [insG]
    simp only [List.getElem?_map, hb, Option.map_some]
    exact hi
  · rw [normG]
    simp only [List.getElem?_map, hb, Option.map_some]
    rw [if_pos ho]

/-- The last step. -/
theorem LS.halt (hj : j = l.length) : LS nc (l.map B) ⟨j, ⟨0, rg, false⟩⟩ ws ⟨j, ⟨1, rg, true⟩⟩ ws .no := by
  subst hj
  refine ⟨⟨0, 0, 0, 0, 0⟩, ⟨1, rg, true⟩, ?_, .inl rfl, rfl, ?_⟩
  · rw [insG]
    simp
  · rw [normG]
    simp

theorem nx_same {a b c d : Int} {o : Nat} {rg : List Int} {ws : List Int} (h : rgZ rg a = u64m b) : nextW ⟨11, a, b, c, d⟩ ⟨o, rg, false⟩ ws = (⟨c.toNat, rg, false⟩, ws, .no) := by
  show ((if rgZ rg a = u64m b then _ else _ : ThZ), ws, EffW.no) = _
  rw [if_pos h]

theorem nx_same' {a b c d : Int} {o : Nat} {rg : List Int} {ws : List Int} (h : ¬ rgZ rg a = u64m b) : nextW ⟨11, a, b, c, d⟩ ⟨o, rg, false⟩ ws = (⟨o + 1, rg, false⟩, ws, .no) := by
  show ((if rgZ rg a = u64m b then _ else _ : ThZ), ws, EffW.no) = _
  rw [if_neg h]

theorem nx_less {a b c d : Int} {o : Nat} {rg : List Int} {ws : List Int} (h : rgZ rg a < rgZ rg b) : nextW ⟨12, a, b, c, d⟩ ⟨o, rg, false⟩ ws = (⟨c.toNat, rg, false⟩, ws, .no) := by
  show ((if rgZ rg a < rgZ rg b then _ else _ : ThZ), ws, EffW.no) = _
  rw [if_pos h]

theorem nx_less' {a b c d : Int} {o : Nat} {rg : List Int} {ws : List Int} (h : ¬ rgZ rg a < rgZ rg b) : nextW ⟨12, a, b, c, d⟩ ⟨o, rg, false⟩ ws = (⟨o + 1, rg, false⟩, ws, .no) := by
  show ((if rgZ rg a < rgZ rg b then _ else _ : ThZ), ws, EffW.no) = _
  rw [if_neg h]

theorem nx_equal {a b c d : Int} {o : Nat} {rg : List Int} {ws : List Int} (h : rgZ rg a = rgZ rg b) : nextW ⟨13, a, b, c, d⟩ ⟨o, rg, false⟩ ws = (⟨c.toNat, rg, false⟩, ws, .no) := by
  show ((if rgZ rg a = rgZ rg b then _ else _ : ThZ), ws, EffW.no) = _
  rw [if_pos h]

theorem nx_equal' {a b c d : Int} {o : Nat} {rg : List Int} {ws : List Int} (h : ¬ rgZ rg a = rgZ rg b) : nextW ⟨13, a, b, c, d⟩ ⟨o, rg, false⟩ ws = (⟨o + 1, rg, false⟩, ws, .no) := by
  show ((if rgZ rg a = rgZ rg b then _ else _ : ThZ), ws, EffW.no) = _
  rw [if_neg h]

theorem nx_swap {a b c d : Int} {o : Nat} {rg : List Int} {ws : List Int} (h : rgZ ws b = rgZ rg c) : nextW ⟨9, a, b, c, d⟩ ⟨o, rg, false⟩ ws = (⟨o + 1, rgS rg a 1, false⟩, rgS ws b (rgZ rg d), .act 9 b.toNat (rgZ ws b) (rgZ rg d)) := by
  show (if rgZ ws b = rgZ rg c then _ else _) = _
  rw [if_pos h]

theorem nx_swap' {a b c d : Int} {o : Nat} {rg : List Int} {ws : List Int} (h : ¬ rgZ ws b = rgZ rg c) : nextW ⟨9, a, b, c, d⟩ ⟨o, rg, false⟩ ws = (⟨o + 1, rgS rg a 0, false⟩, ws, .act 9 b.toNat (rgZ ws b) (rgZ ws b)) := by
  show (if rgZ ws b = rgZ rg c then _ else _) = _
  rw [if_neg h]

theorem nx_wait {a b c d : Int} {o : Nat} {rg : List Int} {ws : List Int} (h : rgZ ws a = rgZ rg b) : nextW ⟨14, a, b, c, d⟩ ⟨o, rg, false⟩ ws = (⟨o + 1, rg, false⟩, ws, .sleep a.toNat) := by
  show ((⟨o + 1, rg, false⟩ : ThZ), ws, if rgZ ws a = rgZ rg b then EffW.sleep a.toNat else EffW.no) = _
  rw [if_pos h]

theorem nx_wait' {a b c d : Int} {o : Nat} {rg : List Int} {ws : List Int} (h : ¬ rgZ ws a = rgZ rg b) : nextW ⟨14, a, b, c, d⟩ ⟨o, rg, false⟩ ws = (⟨o + 1, rg, false⟩, ws, .no) := by
  show ((⟨o + 1, rg, false⟩ : ThZ), ws, if rgZ ws a = rgZ rg b then EffW.sleep a.toNat else EffW.no) = _
  rw [if_neg h]

end

/-- Who wakes all that sleep at the one cell. -/
theorem wake_all {l : List Slp} {c : Nat} {N : Int} (h : ∀ s ∈ l, s.c = c) (hl : l.length ≤ N) : (wakeL c N 0 l).2 = [] := by
  have : ∀ (l : List Slp) (k : Nat), (∀ s ∈ l, s.c = c) → k + l.length ≤ N → (wakeL c N k l).2 = [] := by
    intro l
    induction l with
    | nil => intro _ _ _; rfl
    | cons x xs ih =>
      intro k hs hk
      rw [List.length_cons] at hk
      rw [wakeL, if_pos ⟨hs x (by simp), by omega⟩]
      exact ih (k + 1) (fun s hs' => hs s (by simp [hs'])) (by omega)
  exact this l 0 h (by omega)

section
variable {n nc : Nat} {bs : Nat → List (List InsZ)} {gs : Nat → GZ} {ws : List Int} {z : MZ}

/-- Where nobody can go on each is at its end, or sleeps. -/
theorem SysW.stop (h : SysW n nc bs gs ws z) (hno : ∀ t, t < z.ts.length → canZ z (t : Int) = false) {t : Nat} (ht : t < n) : (gs t).y.dn = true ∨ ∃ s ∈ z.ss, s.t = t := by
  cases hd : (gs t).y.dn with
  | true => exact .inl rfl
  | false =>
    refine .inr (Classical.byContradiction fun hs => ?_)
    have := can_in (h.ts t ht) (show (conc _ (gs t)).dn = false from hd) (fun s hs' e => hs ⟨s, hs', e⟩)
    rw [hno t (by rw [h.ln]; exact ht)] at this
    cases this

theorem SysW.all (h : SysW n nc bs gs ws z) (hno : ∀ t, t < z.ts.length → canZ z (t : Int) = false) (hs : z.ss = []) : ∀ x ∈ z.ts, x.dn = true := by
  intro x hx
  obtain ⟨t, ht⟩ := List.mem_iff_getElem?.1 hx
  have htn : t < n := by rw [← h.ln]; exact (List.getElem?_eq_some_iff.1 ht).1
  have h1 : (gs t).y.dn = true := by
    rcases h.stop hno htn with h1 | ⟨s, h1, _⟩
    · exact h1
    · rw [hs] at h1; cases h1
  rw [h.ts t htn] at ht
  obtain rfl := Option.some.inj ht
  exact h1

end

/-- What holds, whoever goes on, till nobody can. -/
theorem fin_stop {P : MZ → Prop} (hs : ∀ m t, P m → P (stepZ m t).2) (hk : ∀ m, P m → m.k < 20000) {m : MZ} (h : P m) (hw : WF m) : P (finish m) ∧ ∀ t, t < (finish m).ts.length → canZ (finish m) (t : Int) = false := by
  obtain ⟨h1, h2⟩ := finish_inv (P := P) (fun m t hP _ _ => hs m t hP) h hw
  refine ⟨h1, fun t ht => ?_⟩
  cases hcz : canZ (finish m) (t : Int) with
  | false => rfl
  | true => exact absurd ⟨hcz, hk _ h1⟩ (h2 t ht)

end Go.Mac
end
