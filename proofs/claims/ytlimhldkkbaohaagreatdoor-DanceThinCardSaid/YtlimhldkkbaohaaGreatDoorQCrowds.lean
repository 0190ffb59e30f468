/- Barriers: all acts are done to cells that there are; how many come to Central's count. -/
import Derived.Test.YtlimhldkkbaohaaGreatDoorQKept
open Go Go.Proofs Go.Mac
set_option maxRecDepth 100000
namespace Go.Mac

/-- A piece's acts are done to its cells. -/
theorem fit_eff {nc R : Nat} {Q : List Pc} {V : Nat → Nat} {a : AT} (hf : ∀ x ∈ Q, pcFit nc x = true) (hlo : LocOk Q a.l) {o : Int} {c x y : Nat} (h : (stA R Q V a).2 = .act o c x y) : c < nc := by
  obtain ⟨r, xx, e, l⟩ := a
  cases l with
  | pc k o' =>
    obtain ⟨z, hz, ho⟩ := hlo
    rw [stA_pc hz] at h
    have hfz := hf z (List.mem_of_getElem? hz)
    cases z with
    | aw c' =>
      have : c' < nc := of_decide_eq_true hfz
      obtain ⟨_, h2, _⟩ := aw_act h
      omega
    | tl c' s =>
      have : c' < nc := of_decide_eq_true hfz
      rcases o' with _ | o'
      · injection h with h1 h2 h3 h4
        omega
      · cases h
    | up c' s j =>
      have : c' + 1 < nc := (of_decide_eq_true hfz).1
      rcases o' with _ | _ | o'
      · injection h with h1 h2 h3 h4
        omega
      · cases h
      · by_cases h5 : o' = 5
        · subst h5
          cases h
        · have e9 := stPc_up (Q := Q) (V := V) (a := ⟨r, xx, e, .pc k (o' + 2)⟩) (k := k) (c := c') (s := s) (j := j) h5
          have h : (stPc Q V ⟨r, xx, e, .pc k (o' + 2)⟩ k (o' + 2) (.up c' s j)).2 = .act o c x y := h
          rw [e9] at h
          obtain ⟨_, h2, _⟩ := aw_act h
          omega
    | dn c' s =>
      have : c' + 1 < nc := of_decide_eq_true hfz
      rcases o' with _ | _ | _ | o'
      · cases h
      · injection h with h1 h2 h3 h4
        omega
      · injection h with h1 h2 h3 h4
        omega
      · cases h
  | _ => cases h

/-- All acts are done to cells that there are. -/
def CI (nc : Nat) (al : List ActZ) : Prop := ∀ a ∈ al, 0 ≤ a.c ∧ a.c < nc

theorem kept_cells {k n R : Nat} (hk : 1 ≤ k ∧ k ≤ 6) (hn : 1 ≤ n ∧ n ≤ 16) : Kept n R (PP k n) (kindI k n R) fun _ _ al _ => CI (kindC k n) al := by
  intro A V ss al k' t hI hJ ht hlo _ _ _
  have hf : ∀ x ∈ PP k n t, pcFit (kindC k n) x = true := fun x hx => by
    rw [PP_get ht] at hx
    exact ((kind_right R hk hn ht).2.2 x hx).1
  cases he : (stA R (PP k n t) V (A t)).2 with
  | act o c x y =>
    have := fit_eff hf hlo he
    intro a ha
    rcases List.mem_append.1 (show a ∈ al ++ [_] from ha) with ha | ha
    · exact hJ a ha
    · rw [List.mem_singleton.1 ha]
      exact ⟨Int.natCast_nonneg _, by show (c : Int) < _; omega⟩
  | no => exact hJ
  | slp c => exact hJ
  | wk c s => exact hJ
  | say a x => exact hJ

/-- In how many rounds one came to the count. -/
def fcA (a : AT) : Nat :=
  match a.l with
  | .pc k o => if k = 0 ∧ o = 0 then a.r - 1 else a.r
  | .gone => a.r
  | .plus => a.r
  | _ => a.r - 1

def isF (a : ActZ) : Bool := a.o == 8 && a.c == 0

def fcE : Ef → Nat
  | .act o c _ _ => if o = 8 ∧ c = 0 then 1 else 0
  | _ => 0

theorem fcE_more (k t : Nat) (al : List ActZ) (e : Ef) : (efA k t al e).countP isF = al.countP isF + fcE e := by
  cases e with
  | act o c x y =>
    show (al ++ [_]).countP isF = _
    rw [List.countP_append, fcE]
    congr 1
    by_cases h : o = 8 ∧ c = 0
    · obtain ⟨rfl, rfl⟩ := h; rfl
    · rw [if_neg h, List.countP_eq_zero]
      intro a ha
      rw [List.mem_singleton.1 ha]
      simp only [isF, Bool.and_eq_true, beq_iff_eq, not_and]
      intro h1 h2
      exact h ⟨h1, by have h2 : (c : Int) = 0 := h2; omega⟩
  | no => rfl
  | slp c => rfl
  | wk c s => rfl
  | say a x => rfl

theorem fcA_aw {V : Nat → Nat} {a : AT} {c o : Nat} {f : Nat → NL} {out : NL} (hf : ∀ o, ∃ k o', f o = .pc k o' ∧ ¬ (k = 0 ∧ o' = 0)) (ho : ∃ k o', out = .pc k o' ∧ ¬ (k = 0 ∧ o' = 0)) : fcA (awA V a c o f out).1 = a.r ∧ fcE (awA V a c o f out).2 = 0 := by
  have key : ∀ (r x e : Nat) (l : NL), (∃ k o', l = .pc k o' ∧ ¬ (k = 0 ∧ o' = 0)) → fcA ⟨r, x, e, l⟩ = r := fun r x e l ⟨k, o', h, hn⟩ => by
    subst h
    exact if_neg hn
  obtain ⟨r, x, e, l⟩ := a
  rcases o with _ | _ | _ | _ | o
  · refine ⟨key _ _ _ _ (hf 1), ?_⟩
    show (if (6 : Int) = 8 ∧ c = 0 then 1 else 0) = 0
    rw [if_neg (by omega)]
  · refine ⟨key r x e (if x < r then f 3 else f 2) ?_, rfl⟩
    split
    · exact hf 3
    · exact hf 2
  · exact ⟨key _ _ _ _ ho, rfl⟩
  · refine ⟨key r x e (f 4) (hf 4), ?_⟩
    show fcE (if V c = x then .slp c else .no) = 0
    split <;> rfl
  · exact ⟨key _ _ _ _ (hf 0), rfl⟩

theorem central_step {n R : Nat} {V : Nat → Nat} {a : AT} (hlo : LocOk (centralP n) a.l) (hr : RegOk R a) (hd : isEnd a.l = false) : fcA (stA R (centralP n) V a).1 = fcA a + fcE (stA R (centralP n) V a).2 := by
  obtain ⟨r, x, e, l⟩ := a
  cases l with
  | p0 =>
    have h : r = 0 := hr.1
    show 1 - 1 = r - 1 + 0
    omega
  | p1 => rfl
  | head =>
    show fcA ⟨r, x, e, if r < e then .came else .halt⟩ = r - 1 + 0
    split <;> rfl
  | halt => rfl
  | came => rfl
  | gone => rfl
  | plus => rfl
  | jump => rfl
  | ended => cases hd
  | pc k o =>
    have hr : 1 ≤ r := hr.1
    obtain ⟨z, hz, ho⟩ := hlo
    rw [stA_pc hz]
    rcases k with _ | _ | k
    · obtain rfl := Option.some.inj (show some (Pc.up 0 n 2) = some z from hz)
      rcases o with _ | _ | o
      · show r = r - 1 + 1
        omega
      · have e0 : fcA ⟨r, x, e, .pc 0 1⟩ = r := rfl
        rw [e0]
        show fcA ⟨r, x, e, if (x : Int) = n - 1 then nxL (centralP n) 1 else .pc 0 2⟩ = r + 0
        split <;> rfl
      · by_cases h5 : o = 5
        · subst h5
          rfl
        · have e9 := stPc_up (Q := centralP n) (V := V) (a := ⟨r, x, e, .pc 0 (o + 2)⟩) (k := 0) (c := 0) (s := n) (j := 2) h5
          have e0 : fcA ⟨r, x, e, .pc 0 (o + 1 + 1)⟩ = r := by
            show (if 0 = 0 ∧ o + 1 + 1 = 0 then r - 1 else r) = r
            exact if_neg fun h => by have := h.2; omega
          obtain ⟨h1, h2⟩ := fcA_aw (V := V) (a := ⟨r, x, e, .pc 0 (o + 2)⟩) (c := 0 + 1) (o := o) (f := fun o => .pc 0 (o + 2)) (out := .pc 0 7) (fun o => ⟨0, o + 2, rfl, fun h => by have := h.2; omega⟩) ⟨0, 7, rfl, fun h => by have := h.2; omega⟩
          rw [e0]
          show fcA (stPc (centralP n) V ⟨r, x, e, .pc 0 (o + 2)⟩ 0 (o + 2) (.up 0 n 2)).1 = r + fcE (stPc (centralP n) V ⟨r, x, e, .pc 0 (o + 2)⟩ 0 (o + 2) (.up 0 n 2)).2
          rw [e9, h1, h2]
          rfl
    · obtain rfl := Option.some.inj (show some (Pc.dn 0 n) = some z from hz)
      rcases o with _ | _ | _ | o <;> rfl
    · cases hz

theorem kept_crowd {n R : Nat} (_hn : 1 ≤ n ∧ n ≤ 16) : Kept n R (PP 1 n) (kindI 1 n R) fun A _ al _ => al.countP isF = rsum n fun t => fcA (A t) := by
  intro A V ss al k' t hI hJ ht hlo hd _ _
  obtain ⟨b, hI⟩ : ∃ b, TI n 1 R 1 (PP 1 n) (fun x => if x < n then 0 else 1) (fun _ => n) (fun _ _ => 0) b A V _ := hI
  have hP : PP 1 n t = centralP n := PP_get ht
  have hs := central_step (R := R) (V := V) (by rw [← hP]; exact hlo) (hI.reg t ht) hd
  rw [← hP] at hs
  have h1 := rsum_set (n := n) (t := t) (g := fun s => fcA (A s)) (h := fun s => fcA (updA A t (stA R (PP 1 n t) V (A t)).1 s)) ht fun s e => by rw [updA_ne _ _ e]
  rw [updA_same, hs] at h1
  show (efA _ _ _ _).countP isF = _
  rw [fcE_more, hJ]
  omega

theorem central_crowd {n R : Nat} (hn : 1 ≤ n ∧ n ≤ 16) (hR : R ≤ 6) (l : List MoveZ) (hl : l.length ≤ 900) :
    (finish (movesZ (danceM 1 n R) l)).al.countP isF = n * R ∧ ∀ a ∈ (finish (movesZ (danceM 1 n R) l)).al, 0 ≤ a.c ∧ a.c < 2 := by
  have hk : 1 ≤ (1 : Nat) ∧ 1 ≤ 6 := by decide
  constructor
  · obtain ⟨A, V, h, j, he⟩ := dance_finishJ hk hn hR (kept_crowd hn) (by
      show 0 = rsum n fun _ => 0
      rw [rsum_same]; omega) l hl
    rw [j, rsum_cong (h := fun _ => R) fun t ht => ?_, rsum_same]
    have hr := (kind_bar R hk hn).reg A V _ h.inv t ht
    rw [RegOk, he t ht] at hr
    rw [fcA, he t ht]
    show (A t).r - 1 = R
    omega
  · obtain ⟨A, V, h, j, he⟩ := dance_finishJ hk hn hR (kept_cells hk hn) (fun a ha => by cases ha) l hl
    exact j

/-- Behind moves all acts are done to cells that there are. -/
theorem dance_cells {k n R : Nat} (hk : 1 ≤ k ∧ k ≤ 6) (hn : 1 ≤ n ∧ n ≤ 16) (hR : R ≤ 20) (l : List MoveZ) : ∀ a ∈ (movesZ (danceM k n R) l).al, 0 ≤ a.c ∧ a.c < kindC k n := by
  obtain ⟨A, V, h, j⟩ := dance_movesJ hk hn hR (kept_cells hk hn) (fun a ha => by cases ha) l
  exact j

end Go.Mac
