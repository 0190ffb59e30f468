/- Barriers: what holds of all acts, whoever goes on when; when cells were stored. -/
import Derived.Test.YtlimhldkkbaohaaGreatDoorQPokeL
open Go Go.Proofs Go.Mac
set_option maxRecDepth 100000
namespace Go.Mac

/-- What holds of acts, step by step. -/
def Kept (n R : Nat) (P : Nat → List Pc) (I : (Nat → AT) → (Nat → Nat) → List Slp → Prop) (J : (Nat → AT) → (Nat → Nat) → List ActZ → Nat → Prop) : Prop :=
  ∀ A V ss al k t, I A V ss → J A V al k → t < n → LocOk (P t) (A t).l → isEnd (A t).l = false → noT ss t →
    I (updA A t (stA R (P t) V (A t)).1) (efV V (stA R (P t) V (A t)).2) (efS t ss (stA R (P t) V (A t)).2) →
    J (updA A t (stA R (P t) V (A t)).1) (efV V (stA R (P t) V (A t)).2) (efA (k + 1) t al (stA R (P t) V (A t)).2) (k + 1)

section
variable {n nc R : Nat} {P : Nat → List Pc} {I : (Nat → AT) → (Nat → Nat) → List Slp → Prop} {F : (Nat → AT) → (Nat → Nat) → List Slp → Nat} {b : Nat} {A : Nat → AT} {V : Nat → Nat} {m : MZ} {J : (Nat → AT) → (Nat → Nat) → List ActZ → Nat → Prop}

theorem DI.goJ (hB : Bar n R P I F) (hJ : Kept n R P I J) (h : DI n nc R P I F b A V m) (j : J A V m.al m.k) {t : Nat} (hc : canZ m t = true) (hk : m.k < 20000) : ∃ A' V', DI n nc R P I F b A' V' (stepZ m t).2 ∧ J A' V' (stepZ m t).2.al (stepZ m t).2.k := by
  obtain ⟨g1, g2, g3, g4, g5⟩ := h.abs.go hc hk
  obtain ⟨ht, hd, hno⟩ := h.abs.can hc
  obtain ⟨i1, i2⟩ := hB.go A V m.ss t h.inv ht (h.abs.lo t ht) hd hno
  have hp := h.pot
  refine ⟨_, _, ⟨g1, by rw [g2]; exact i1, ?_, by rw [g2, g5]; omega⟩, ?_⟩
  · rw [g4]
    exact h.ev.go ht (hB.reg A V m.ss h.inv t ht) fun hg => hB.safe A V m.ss t h.inv ht hg
  · rw [g3, g5]
    exact hJ A V m.ss m.al m.k t h.inv j ht (h.abs.lo t ht) hd hno i1

theorem DI.movesJ (hB : Bar n R P I F) (hJ : Kept n R P I J) : ∀ (l : List MoveZ) {b : Nat} {m : MZ}, (∃ A V, DI n nc R P I F b A V m ∧ J A V m.al m.k) → ∃ A V, DI n nc R P I F (b + 4 * l.length) A V (movesZ m l) ∧ J A V (movesZ m l).al (movesZ m l).k
  | [], b, m, h => h
  | x :: l, b, m, ⟨A, V, h, j⟩ => by
    have h1 : ∃ A V, DI n nc R P I F (b + 4) A V (moveZ m x) ∧ J A V (moveZ m x).al (moveZ m x).k := by
      rw [moveZ]
      split
      · exact ⟨A, V, h.poke hB _, j⟩
      · rcases step_or h.abs.wf x.th with e | ⟨s, e, hc, hk⟩
        · rw [e]; exact ⟨A, V, ⟨h.abs, h.inv, h.ev, by have := h.pot; omega⟩, j⟩
        · rw [e]
          obtain ⟨A', V', h', j'⟩ := h.goJ hB hJ j hc hk
          exact ⟨A', V', ⟨h'.abs, h'.inv, h'.ev, by have := h'.pot; omega⟩, j'⟩
    have := DI.movesJ hB hJ l h1
    rw [List.length_cons, show b + 4 * (l.length + 1) = b + 4 + 4 * l.length by omega]
    exact this

theorem DI.finishJ (hB : Bar n R P I F) (hJ : Kept n R P I J) (h : DI n nc R P I F b A V m) (j : J A V m.al m.k) (hb : b < 20000) : ∃ A' V', DI n nc R P I F b A' V' (Go.Mac.finish m) ∧ J A' V' (Go.Mac.finish m).al (Go.Mac.finish m).k ∧ ∀ t, t < n → (A' t).l = .ended := by
  obtain ⟨⟨A', V', h', j'⟩, hn⟩ := finish_inv (P := fun m => ∃ A V, DI n nc R P I F b A V m ∧ J A V m.al m.k) (fun m t h hc hk => by obtain ⟨A, V, h, j⟩ := h; exact h.goJ hB hJ j hc hk) ⟨A, V, h, j⟩ h.abs.wf
  refine ⟨A', V', h', j', ?_⟩
  refine hB.live A' V' _ h'.inv fun t ht => ?_
  have hp := h'.pot
  have hx := h'.abs.ts t ht
  have hc : ¬ canZ (Go.Mac.finish m) (t : Int) = true := fun hc => hn t (by rw [h'.abs.ln]; exact ht) ⟨hc, by omega⟩
  by_cases hd : isEnd (A' t).l = true
  · left
    cases hl : (A' t).l <;> rw [hl] at hd <;> first | rfl | cases hd
  · right
    refine Classical.byContradiction fun hne => hc (can_in hx (show isEnd (A' t).l = false by simpa using hd) fun s hs e => hne ⟨s, hs, e⟩)

end

/-- Behind moves. -/
theorem dance_movesJ {k n R : Nat} {J : (Nat → AT) → (Nat → Nat) → List ActZ → Nat → Prop} (hk : 1 ≤ k ∧ k ≤ 6) (hn : 1 ≤ n ∧ n ≤ 16) (hR : R ≤ 20) (hJ : Kept n R (PP k n) (kindI k n R) J) (h0 : J (fun _ => ⟨0, 0, 0, .p0⟩) (fun _ => 0) [] 0) (l : List MoveZ) :
    ∃ A V, DI n (kindC k n) R (PP k n) (kindI k n R) (kindF k n R) (R * costK k n + 4 * n + 4 * l.length) A V (movesZ (danceM k n R) l) ∧ J A V (movesZ (danceM k n R) l).al (movesZ (danceM k n R) l).k :=
  DI.movesJ (kind_bar R hk hn) hJ l ⟨_, _, dance_begin hk hn hR, h0⟩

/-- In the end. -/
theorem dance_finishJ {k n R : Nat} {J : (Nat → AT) → (Nat → Nat) → List ActZ → Nat → Prop} (hk : 1 ≤ k ∧ k ≤ 6) (hn : 1 ≤ n ∧ n ≤ 16) (hR : R ≤ 6) (hJ : Kept n R (PP k n) (kindI k n R) J) (h0 : J (fun _ => ⟨0, 0, 0, .p0⟩) (fun _ => 0) [] 0) (l : List MoveZ) (hl : l.length ≤ 900) :
    ∃ A V, DI n (kindC k n) R (PP k n) (kindI k n R) (kindF k n R) (R * costK k n + 4 * n + 4 * l.length) A V (finish (movesZ (danceM k n R) l)) ∧ J A V (finish (movesZ (danceM k n R) l)).al (finish (movesZ (danceM k n R) l)).k ∧ ∀ t, t < n → (A t).l = .ended := by
  obtain ⟨A, V, h, j⟩ := dance_movesJ hk hn (show R ≤ 20 by omega) hJ h0 l
  refine h.finishJ (kind_bar R hk hn) hJ j ?_
  have := (cost_le hk hn).2
  have : R * costK k n ≤ 6 * costK k n := Nat.mul_le_mul_right _ hR
  omega

/-- Cells of a kind, in the end. -/
theorem end_cell {k n R c : Nat} {A : Nat → AT} {V : Nat → Nat} {ss : List Slp} (hk : 1 ≤ k ∧ k ≤ 6) (hn : 1 ≤ n ∧ n ≤ 16) (hI : kindI k n R A V ss) (he : ∀ t, t < n → (A t).l = .ended) (hc : c < kindC k n) : V c = endV k n R c := by
  have par : ∀ N, kindC k n = 2 * N → k ≤ 2 → (∀ v, v < N → V (2 * v) = 0 ∧ V (2 * v + 1) = R) → V c = endV k n R c := fun N hN hk2 h => by
    rw [endV, if_pos hk2]
    obtain ⟨h1, h2⟩ := h (c / 2) (by omega)
    split
    · rw [show 2 * (c / 2) = c by omega] at h1
      exact h1
    · rw [show 2 * (c / 2) + 1 = c by omega] at h2
      exact h2
  by_cases h1 : k = 1
  · subst h1
    obtain ⟨b, hI⟩ : ∃ b, TI n 1 R 1 (PP 1 n) (fun x => if x < n then 0 else 1) (fun _ => n) (fun _ _ => 0) b A V _ := hI
    exact par 1 rfl (by decide) (tree_ended (tree_one1 hn) hI he)
  by_cases h2 : k = 2
  · subst h2
    obtain ⟨b, hI⟩ : ∃ b, TI n (firstN n (hgtN n)) R (hgtN n) (PP 2 n) (parV n) (sizeV n) (nodeN n) b A V _ := hI
    exact par _ rfl (by decide) (tree_ended (tree_two hn) hI he)
  · rw [kindI, if_neg h1, if_neg h2] at hI
    have e : endV k n R c = if (wrL c (kindL k n) 0).isSome = true then R else 0 := if_neg (show ¬ k ≤ 2 by omega)
    rw [net_ended hI he c, e]

/-- When a cell was stored. -/
def stN (c : Nat) (al : List ActZ) : List Int := al.filterMap fun a => if a.o = 7 ∧ a.c = (c : Int) then some a.w else none

theorem stN_snoc (c : Nat) (al : List ActZ) (a : ActZ) : stN c (al ++ [a]) = stN c al ++ (if a.o = 7 ∧ a.c = (c : Int) then [a.w] else []) := by
  rw [stN, List.filterMap_append, ← stN]
  congr 1
  rw [List.filterMap_cons]
  by_cases h : a.o = 7 ∧ a.c = (c : Int)
  · rw [if_pos h, if_pos h]; rfl
  · rw [if_neg h, if_neg h]; rfl

/-- How often, and when, cells are stored. -/
structure SI (G : Nat → Prop) (up : Nat → Nat → Prop) (V : Nat → Nat) (al : List ActZ) (k : Nat) : Prop where
  len : ∀ c, G c → (stN c al).length = V c
  tim : ∀ c, ∀ w ∈ stN c al, w ≤ (k : Int)
  ord : ∀ c d, up c d → ∀ (r : Nat) (x y : Int), (stN c al)[r]? = some x → (stN d al)[r]? = some y → y < x

theorem SI.go {G : Nat → Prop} {up : Nat → Nat → Prop} {V : Nat → Nat} {al : List ActZ} {k : Nat} (h : SI G up V al k) (t : Nat) (e : Ef) (hG : ∀ c d, up c d → G c ∧ G d ∧ c ≠ d)
    (he : ∀ o c x y, e = .act o c x y → G c → (o = 7 ∧ y = V c + 1) ∨ (o ≠ 7 ∧ y = V c)) (hm0 : ∀ c d, up c d → V c ≤ V d) (hm : ∀ c d, up c d → efV V e c ≤ efV V e d) : SI G up (efV V e) (efA (k + 1) t al e) (k + 1) := by
  have keep : SI G up V al (k + 1) := ⟨h.len, fun c w hw => by have := h.tim c w hw; omega, h.ord⟩
  cases e with
  | act o c0 x y =>
    have hs : ∀ c, stN c (efA (k + 1) t al (.act o c0 x y)) = stN c al ++ (if o = 7 ∧ c0 = c then [((k + 1 : Nat) : Int)] else []) := fun c => by
      show stN c (al ++ [⟨((k + 1 : Nat) : Int), t, o, c0, x, y⟩]) = _
      rw [stN_snoc]
      congr 1
      by_cases h9 : o = 7 ∧ c0 = c
      · rw [if_pos h9, if_pos ⟨h9.1, by rw [h9.2]⟩]
      · rw [if_neg h9, if_neg fun h8 => h9 ⟨h8.1, by have h7 : (c0 : Int) = (c : Int) := h8.2; omega⟩]
    have hV : ∀ c, efV V (.act o c0 x y) c = if c = c0 then y else V c := fun c => rfl
    have hl : ∀ c, G c → (stN c (efA (k + 1) t al (.act o c0 x y))).length = efV V (.act o c0 x y) c := fun c hc => by
      rw [hs, hV, List.length_append, h.len c hc]
      by_cases e1 : c = c0
      · subst e1
        rw [if_pos rfl]
        rcases he o c x y rfl hc with ⟨h1, h2⟩ | ⟨h1, h2⟩
        · rw [if_pos ⟨h1, rfl⟩, h2]; rfl
        · rw [if_neg fun h9 => h1 h9.1, h2]; rfl
      · rw [if_neg e1, if_neg fun h9 => e1 h9.2.symm]; rfl
    refine ⟨hl, fun c w hw => ?_, fun c d hcd r x' y' hx hy => ?_⟩
    · rw [hs, List.mem_append] at hw
      rcases hw with hw | hw
      · have := h.tim c w hw; omega
      · split at hw
        · rw [List.mem_singleton.1 hw]; exact Int.le_refl _
        · cases hw
    · obtain ⟨g1, g2, g3⟩ := hG c d hcd
      have hml := hm c d hcd
      rw [← hl c g1, ← hl d g2] at hml
      have hrc := (List.getElem?_eq_some_iff.1 hx).1
      have hc' : (stN c (efA (k + 1) t al (.act o c0 x y))).length ≤ (stN d (efA (k + 1) t al (.act o c0 x y))).length := hml
      have l1 := congrArg List.length (hs c)
      have l2 := congrArg List.length (hs d)
      rw [List.length_append] at l1 l2
      rw [hs] at hx hy
      by_cases o1 : o = 7 ∧ c0 = c
      · have o2 : ¬ (o = 7 ∧ c0 = d) := fun h9 => g3 (o1.2.symm.trans h9.2)
        rw [if_pos o1] at hx l1
        rw [if_neg o2, List.append_nil] at hy
        by_cases hr : r < (stN c al).length
        · rw [List.getElem?_append_left hr] at hx
          exact h.ord c d hcd r x' y' hx hy
        · rw [List.getElem?_append_right (by omega)] at hx
          have hr2 := (List.getElem?_eq_some_iff.1 hx).1
          have hr3 : r - (stN c al).length = 0 := by
            have : r - (stN c al).length < 1 := hr2
            omega
          rw [hr3] at hx
          have : ((k + 1 : Nat) : Int) = x' := Option.some.inj hx
          have h8 := h.tim d y' (List.mem_of_getElem? hy)
          omega
      · rw [if_neg o1, List.append_nil] at hx
        rw [if_neg o1] at l1
        have hrc : r < (stN c al).length := (List.getElem?_eq_some_iff.1 hx).1
        by_cases o2 : o = 7 ∧ c0 = d
        · have m1 := h.len c g1
          have m2 := h.len d g2
          by_cases hr : r < (stN d al).length
          · rw [List.getElem?_append_left hr] at hy
            exact h.ord c d hcd r x' y' hx hy
          · have := hm0 c d hcd
            omega
        · rw [if_neg o2, List.append_nil] at hy
          exact h.ord c d hcd r x' y' hx hy
  | no => exact keep
  | slp c => exact keep
  | wk c n => exact keep
  | say a x => exact keep

/-- Cells that are stored once a round. -/
def GK (k c : Nat) : Prop := k ≤ 2 → c % 2 = 1

theorem aw_act {V : Nat → Nat} {a : AT} {c o : Nat} {f : Nat → NL} {out : NL} {o' : Int} {c' x y : Nat} (h : (awA V a c o f out).2 = .act o' c' x y) : o' = 6 ∧ c' = c ∧ y = V c := by
  rcases o with _ | _ | _ | _ | o
  · injection h with h1 h2 h3 h4
    exact ⟨h1.symm, h2.symm, h4.symm⟩
  · cases h
  · cases h
  · change (if V c = a.x then Ef.slp c else .no) = .act o' c' x y at h
    split at h <;> cases h
  · cases h

theorem net_eff {n R : Nat} {P : Nat → List Pc} {wr : Nat → Option (Nat × Nat)} {A : Nat → AT} {V : Nat → Nat} {ss : List Slp} {t : Nat} (hT : NetOk n P wr) (hI : NI n R P wr A V ss) (ht : t < n) (hlo : LocOk (P t) (A t).l)
    {o : Int} {c x y : Nat} (h : (stA R (P t) V (A t)).2 = .act o c x y) : (o = 7 ∧ y = V c + 1) ∨ (o ≠ 7 ∧ y = V c) := by
  have hreg := hI.reg t ht
  have hcell := hI.cell t ht
  obtain ⟨a, hA⟩ : ∃ a, A t = a := ⟨_, rfl⟩
  obtain ⟨r, xx, e, l⟩ := a
  rw [hA] at hreg hlo hcell h
  cases l with
  | pc k o' =>
    obtain ⟨z, hz, ho⟩ := hlo
    rw [stA_pc hz] at h
    rcases hT.kind t ht z (List.mem_of_getElem? hz) with ⟨c', rfl⟩ | ⟨c', s, rfl, _⟩
    · obtain ⟨h1, h2, h3⟩ := aw_act h
      subst h2
      exact .inr ⟨by omega, h3⟩
    · rcases o' with _ | o'
      · injection h with h1 h2 h3 h4
        left
        refine ⟨h1.symm, ?_⟩
        have := hcell k c' s hz
        rw [tg, done_tl0 hz, if_neg (Nat.lt_irrefl _)] at this
        have hr : 1 ≤ r := hreg.1
        rw [← h2, ← h4, this]
        show r = r - 1 + 1
        omega
      · cases h
  | _ => cases h

theorem tree_eff {n N R hh : Nat} {P : Nat → List Pc} {par sz : Nat → Nat} {p : Nat → Nat → Nat} {lev : Nat → Nat} {b : Nat → Nat} {A : Nat → AT} {V : Nat → Nat} {ss : List Slp} {t : Nat} (hT : TreeOk n N hh P par sz p lev) (hI : TI n N R hh P par sz p b A V ss) (ht : t < n)
    {o : Int} {c x y : Nat} (h : (stA R (P t) V (A t)).2 = .act o c x y) (hc : c % 2 = 1) : (o = 7 ∧ y = V c + 1) ∨ (o ≠ 7 ∧ y = V c) := by
  have he2 := hI.e2 t ht
  have hlo := hI.lo t ht
  have hlen := hT.len t ht
  obtain ⟨a, hA⟩ : ∃ a, A t = a := ⟨_, rfl⟩
  obtain ⟨r, xx, e, l⟩ := a
  rw [hA] at hlo h he2
  cases l with
  | pc k o' =>
    obtain ⟨z, hz, ho⟩ := hlo
    rw [stA_pc hz] at h
    have hk := (List.getElem?_eq_some_iff.1 hz).1
    by_cases hkh : k < hh
    · have := hT.up t ht k hkh
      rw [hz] at this
      obtain rfl := Option.some.inj this
      rcases o' with _ | _ | o'
      · injection h with h1 h2 h3 h4
        omega
      · cases h
      · by_cases h5 : o' = 5
        · subst h5
          cases h
        · have e9 := stPc_up (Q := P t) (V := V) (a := ⟨r, xx, e, .pc k (o' + 2)⟩) (k := k) (c := 2 * p t k) (s := sz (p t k)) (j := 2 * hh - k) h5
          have h : (stPc (P t) V ⟨r, xx, e, .pc k (o' + 2)⟩ k (o' + 2) (.up (2 * p t k) (sz (p t k)) (2 * hh - k))).2 = .act o c x y := h
          rw [e9] at h
          obtain ⟨h1, h2, h3⟩ := aw_act h
          subst h2
          exact .inr ⟨by omega, h3⟩
    · have hi : 2 * hh - 1 - (2 * hh - 1 - k) = k := by omega
      have := hT.dn t ht (2 * hh - 1 - k) (by omega)
      rw [hi, hz] at this
      obtain rfl := Option.some.inj this
      rcases o' with _ | _ | _ | o'
      · cases h
      · injection h with h1 h2 h3 h4
        omega
      · injection h with h1 h2 h3 h4
        left
        refine ⟨h1.symm, ?_⟩
        have := he2 (2 * hh - 1 - k) (by rw [hi_dn hkh, if_pos (by omega)]; omega)
        rw [← h2, ← h4, this]
      · cases h
  | _ => cases h

theorem kind_eff {k n R : Nat} {A : Nat → AT} {V : Nat → Nat} {ss : List Slp} {t : Nat} (hk : 1 ≤ k ∧ k ≤ 6) (hn : 1 ≤ n ∧ n ≤ 16) (hI : kindI k n R A V ss) (ht : t < n) (hlo : LocOk (PP k n t) (A t).l)
    {o : Int} {c x y : Nat} (h : (stA R (PP k n t) V (A t)).2 = .act o c x y) (hc : GK k c) : (o = 7 ∧ y = V c + 1) ∨ (o ≠ 7 ∧ y = V c) := by
  by_cases h1 : k = 1
  · subst h1
    obtain ⟨b, hI⟩ : ∃ b, TI n 1 R 1 (PP 1 n) (fun x => if x < n then 0 else 1) (fun _ => n) (fun _ _ => 0) b A V _ := hI
    exact tree_eff (tree_one1 hn) hI ht h (hc (by decide))
  by_cases h2 : k = 2
  · subst h2
    obtain ⟨b, hI⟩ : ∃ b, TI n (firstN n (hgtN n)) R (hgtN n) (PP 2 n) (parV n) (sizeV n) (nodeN n) b A V _ := hI
    exact tree_eff (tree_two hn) hI ht h (hc (by decide))
  · rw [kindI, if_neg h1, if_neg h2] at hI
    exact net_eff (kind_netOk (by omega) hn) hI ht hlo h

theorem kept_stores {k n R : Nat} {up : Nat → Nat → Prop} (hk : 1 ≤ k ∧ k ≤ 6) (hn : 1 ≤ n ∧ n ≤ 16) (hup : ∀ c d, up c d → GK k c ∧ GK k d ∧ c ≠ d) (hm : ∀ A V ss, kindI k n R A V ss → ∀ c d, up c d → V c ≤ V d) :
    Kept n R (PP k n) (kindI k n R) (fun _ V al k' => SI (GK k) up V al k') :=
  fun A V ss _ _ t hI hJ ht hlo _ _ hI' => SI.go hJ t _ hup (fun _ _ _ _ h hc => kind_eff hk hn hI ht hlo h hc) (hm A V ss hI) (hm _ _ _ hI')

theorem SI.begin (G : Nat → Prop) (up : Nat → Nat → Prop) : SI G up (fun _ => 0) [] 0 := ⟨fun _ _ => rfl, fun _ _ h => (by cases h), fun _ _ _ _ _ _ h => (by cases h)⟩

/-- How often, and when, cells were stored in the end. -/
theorem dance_stores {k n R : Nat} {up : Nat → Nat → Prop} (hk : 1 ≤ k ∧ k ≤ 6) (hn : 1 ≤ n ∧ n ≤ 16) (hR : R ≤ 6) (hup : ∀ c d, up c d → GK k c ∧ GK k d ∧ c ≠ d) (hm : ∀ A V ss, kindI k n R A V ss → ∀ c d, up c d → V c ≤ V d) (l : List MoveZ) (hl : l.length ≤ 900) :
    (∀ c, GK k c → c < kindC k n → (stN c (finish (movesZ (danceM k n R) l)).al).length = endV k n R c) ∧
    ∀ c d, up c d → ∀ (r : Nat) (x y : Int), (stN c (finish (movesZ (danceM k n R) l)).al)[r]? = some x → (stN d (finish (movesZ (danceM k n R) l)).al)[r]? = some y → y < x := by
  obtain ⟨A, V, h, j, he⟩ := dance_finishJ hk hn hR (kept_stores hk hn hup hm) (SI.begin _ _) l hl
  exact ⟨fun c hc hc2 => (j.len c hc).trans (end_cell hk hn h.inv he hc2), j.ord⟩

end Go.Mac
