/- Texts that belong together; the first of them: Networks of cells that each have one who waits there and one who tells: how many acts are done to a cell. -/
import Derived.Test.YtlimhldkkbaohaaGreatDoorQKept
import Derived.Test.YtlimhldkkbaohaaGreatDoorGCount
import Derived.Test.YtlimhldkkbaohaaGreatDoorQCrowds

/- Networks of cells that each have one who waits there and one who tells: how many acts are done to a cell. -/
section
open Go Go.Proofs Go.Mac
set_option maxRecDepth 100000
namespace Go.Mac

/-- How many acts were done to a cell. -/
def cntC (c : Nat) (al : List ActZ) : Nat := al.countP fun a => a.c == (c : Int)

theorem cntC_snoc (c : Nat) (al : List ActZ) (a : ActZ) : cntC c (al ++ [a]) = cntC c al + if a.c = (c : Int) then 1 else 0 := by
  rw [cntC, List.countP_append, ← cntC]
  congr 1
  by_cases h : a.c = (c : Int)
  · rw [if_pos h]
    simp [h]
  · rw [if_neg h]
    simp [h]

def slB (ss : List Slp) (u : Nat) : Bool := ss.any fun s => s.t == (u : Int)

/-- How often one may still look, at a place of waiting. -/
def needO (a : AT) (v : Nat) (sl : Bool) : Nat → Nat
  | 0 => if v < a.r then 2 else 1
  | 1 => if a.x < a.r then 1 else 0
  | 2 => 0
  | 3 => 1
  | _ => if sl = true then 1 else if v < a.r then 2 else 1

def needA (a : AT) (q v : Nat) (sl : Bool) : Nat :=
  match a.l with
  | .pc k o => if k = q then needO a v sl o else 0
  | _ => 0

/-- In how many rounds one began to wait. -/
def atg (a : AT) (q : Nat) : Nat :=
  match a.l with
  | .pc k _ => if q ≤ k then a.r else a.r - 1
  | .gone => a.r
  | .plus => a.r
  | _ => a.r - 1

/-- One is about to wake. -/
def pendA (a : AT) (p : Nat) : Nat :=
  match a.l with
  | .pc k (_ + 1) => if k = p then 1 else 0
  | _ => 0

def ldC (c : Nat) : Ef → Nat
  | .act o d _ _ => if o = 6 ∧ d = c then 1 else 0
  | _ => 0
def stC (c : Nat) : Ef → Nat
  | .act o d _ _ => if o ≠ 6 ∧ d = c then 1 else 0
  | _ => 0
def wkC (c : Nat) : Ef → Nat
  | .wk d _ => if d = c then 1 else 0
  | _ => 0

theorem cnt_ef (c k t : Nat) (al : List ActZ) (e : Ef) : cntC c (efA k t al e) = cntC c al + ldC c e + stC c e := by
  cases e with
  | act o d x y =>
    show cntC c (al ++ [⟨_, _, o, (d : Int), _, _⟩]) = _
    rw [cntC_snoc]
    show _ + (if (d : Int) = (c : Int) then 1 else 0) = _ + (if o = 6 ∧ d = c then 1 else 0) + (if o ≠ 6 ∧ d = c then 1 else 0)
    by_cases hd : d = c
    · subst hd
      by_cases ho : o = 6
      · rw [if_pos rfl, if_pos ⟨ho, rfl⟩, if_neg fun h => h.1 ho]
      · rw [if_pos rfl, if_neg fun h => ho h.1, if_pos ⟨ho, rfl⟩]
    · rw [if_neg (by omega), if_neg fun h => hd h.2, if_neg fun h => hd h.2]
  | _ => rfl

theorem needO_mono {a : AT} {v v' o : Nat} {sl : Bool} (h : v ≤ v') : needO a v' sl o ≤ needO a v sl o := by
  rcases o with _ | _ | _ | _ | o
  · show (if v' < a.r then 2 else 1) ≤ if v < a.r then 2 else 1
    split <;> split <;> omega
  · exact Nat.le_refl _
  · exact Nat.le_refl _
  · exact Nat.le_refl _
  · show (if sl = true then 1 else if v' < a.r then 2 else 1) ≤ if sl = true then 1 else if v < a.r then 2 else 1
    split
    · exact Nat.le_refl _
    · split <;> split <;> omega

theorem needA_mono {a : AT} {q v v' : Nat} {sl : Bool} (h : v ≤ v') : needA a q v' sl ≤ needA a q v sl := by
  unfold needA
  split
  · split
    · exact needO_mono h
    · exact Nat.le_refl _
  · exact Nat.le_refl _

theorem needA_wake (a : AT) (q v : Nat) (sl sl' : Bool) : needA a q v sl' ≤ needA a q v sl + 1 := by
  unfold needA
  split
  · rename_i k o _
    split
    · rcases o with _ | _ | _ | _ | o
      · exact Nat.le_succ _
      · exact Nat.le_succ _
      · exact Nat.le_succ _
      · exact Nat.le_succ _
      · show (if sl' = true then 1 else if v < a.r then 2 else 1) ≤ (if sl = true then 1 else if v < a.r then 2 else 1) + 1
        split <;> split <;> (try split) <;> omega
    · exact Nat.le_succ _
  · exact Nat.le_succ _

theorem need_nx {Q : List Pc} {r x e j q v : Nat} {sl : Bool} : needA ⟨r, x, e, nxL Q j⟩ q v sl ≤ if q = j then 2 else 0 := by
  rw [nxL]
  split
  · show (if j = q then needO _ v sl 0 else 0) ≤ _
    by_cases h : q = j
    · subst h
      rw [if_pos rfl, if_pos rfl]
      show (if v < r then 2 else 1) ≤ 2
      split <;> omega
    · rw [if_neg fun h2 => h h2.symm, if_neg h]
      exact Nat.le_refl _
  · exact Nat.zero_le _

theorem atg_nx {Q : List Pc} {r x e j q : Nat} (hj : j ≤ Q.length) (hq : q < Q.length) : atg ⟨r, x, e, nxL Q j⟩ q = if q ≤ j then r else r - 1 := by
  rw [nxL]
  split
  · rfl
  · rename_i h
    rw [if_pos (by omega)]
    rfl

theorem pend_nx {Q : List Pc} {r x e j p : Nat} : pendA ⟨r, x, e, nxL Q j⟩ p = 0 := by
  rw [nxL]
  split <;> rfl

section
variable {R : Nat} {Q : List Pc} {V : Nat → Nat} {a : AT} {q c : Nat}

/-- Who waits at a cell: own steps. -/
theorem low_own {sl' : Bool} (hq : Q[q]? = some (.aw c)) (hn : ∀ z ∈ Q, (∃ d, z = .aw d) ∨ ∃ d s, z = .tl d s) (hu : ∀ k : Nat, Q[k]? = some (Pc.aw c) → k = q) (hlo : LocOk Q a.l) (hr : RegOk R a) (hm : a.l = .pc q 3 → MicOk a 3 (V c)) (hs : ∀ d, (stA R Q V a).2 = .slp d → sl' = true) :
    ldC c (stA R Q V a).2 + needA (stA R Q V a).1 q (efV V (stA R Q V a).2 c) sl' + 2 * atg a q ≤ needA a q (V c) false + 2 * atg (stA R Q V a).1 q := by
  have hql := (List.getElem?_eq_some_iff.1 hq).1
  obtain ⟨r, x, e, l⟩ := a
  cases l with
  | p0 =>
    have h0 : r = 0 := hr.1
    subst h0
    exact Nat.le_refl _
  | p1 => exact Nat.le_refl _
  | head =>
    show 0 + needA ⟨r, x, e, if r < e then .came else .halt⟩ q (V c) sl' + 2 * (r - 1) ≤ 0 + 2 * atg ⟨r, x, e, if r < e then .came else .halt⟩ q
    split <;> exact Nat.le_refl _
  | halt => exact Nat.le_refl _
  | came =>
    have hr1 : 1 ≤ r := hr.1
    have h1 := need_nx (Q := Q) (r := r) (x := x) (e := e) (j := 0) (q := q) (v := V c) (sl := sl')
    have h2 := atg_nx (Q := Q) (r := r) (x := x) (e := e) (j := 0) (q := q) (Nat.zero_le _) hql
    show 0 + needA ⟨r, x, e, nxL Q 0⟩ q (V c) sl' + 2 * (r - 1) ≤ 0 + 2 * atg ⟨r, x, e, nxL Q 0⟩ q
    rw [h2]
    by_cases h : q = 0
    · rw [if_pos h] at h1
      rw [if_pos (by omega)]
      omega
    · rw [if_neg h] at h1
      rw [if_neg (by omega)]
      omega
  | gone => exact Nat.le_refl _
  | plus => exact Nat.le_refl _
  | jump => exact Nat.le_refl _
  | ended => exact Nat.le_refl _
  | pc k o =>
    have hr1 : 1 ≤ r := hr.1
    obtain ⟨z, hz, hoz⟩ := hlo
    have hkl := (List.getElem?_eq_some_iff.1 hz).1
    have hpc : ∀ o' (f : NL) x', f = .pc k o' → needA ⟨r, x', e, f⟩ q (V c) sl' = (if k = q then needO ⟨r, x', e, f⟩ (V c) sl' o' else 0) ∧ atg ⟨r, x', e, f⟩ q = if q ≤ k then r else r - 1 := fun o' f x' hf => by subst hf; exact ⟨rfl, rfl⟩
    have hat : atg ⟨r, x, e, .pc k o⟩ q = if q ≤ k then r else r - 1 := rfl
    -- on to the next piece
    have out : needA ⟨r, x, e, .pc k o⟩ q (V c) false = 0 ∨ True → ∀ v', needA ⟨r, x, e, nxL Q (k + 1)⟩ q v' sl' + 2 * atg ⟨r, x, e, .pc k o⟩ q ≤ 2 * atg ⟨r, x, e, nxL Q (k + 1)⟩ q := fun _ v' => by
      have h1 := need_nx (Q := Q) (r := r) (x := x) (e := e) (j := k + 1) (q := q) (v := v') (sl := sl')
      have h2 := atg_nx (Q := Q) (r := r) (x := x) (e := e) (j := k + 1) (q := q) hkl hql
      rw [h2, hat]
      by_cases h : q = k + 1
      · rw [if_pos h] at h1
        rw [if_pos (show q ≤ k + 1 by omega), if_neg (by omega)]
        omega
      · rw [if_neg h] at h1
        by_cases h3 : q ≤ k
        · rw [if_pos h3, if_pos (by omega)]; omega
        · rw [if_neg h3, if_neg (by omega)]; omega
    rw [stA_pc hz] at hs ⊢
    rcases hn z (List.mem_of_getElem? hz) with ⟨d, rfl⟩ | ⟨d, s, rfl⟩
    · have hcase : o = 0 ∨ o = 1 ∨ o = 2 ∨ o = 3 ∨ o = 4 := by
        have : o < 5 := hoz
        omega
      by_cases hkq : k = q
      · subst hkq
        rw [hq] at hz
        obtain rfl : c = d := by injection hz with hz; injection hz
        rcases hcase with rfl | rfl | rfl | rfl | rfl
        · show (if (6 : Int) = 6 ∧ c = c then 1 else 0) + (if k = k then (if V c < r then 1 else 0) else 0) + 2 * (if k ≤ k then r else r - 1) ≤ (if k = k then (if V c < r then 2 else 1) else 0) + 2 * (if k ≤ k then r else r - 1)
          rw [if_pos ⟨rfl, rfl⟩, if_pos rfl, if_pos rfl]
          split <;> omega
        · show 0 + needA ⟨r, x, e, if x < r then .pc k 3 else .pc k 2⟩ k (V c) sl' + 2 * (if k ≤ k then r else r - 1) ≤ (if k = k then (if x < r then 1 else 0) else 0) + 2 * atg ⟨r, x, e, if x < r then .pc k 3 else .pc k 2⟩ k
          rw [if_pos (c := k = k) rfl]
          split
          · show 0 + (if k = k then 1 else 0) + 2 * _ ≤ 1 + 2 * (if k ≤ k then r else r - 1)
            rw [if_pos rfl]
            omega
          · show 0 + (if k = k then 0 else 0) + 2 * _ ≤ 0 + 2 * (if k ≤ k then r else r - 1)
            rw [if_pos rfl]
            omega
        · have := out (.inr trivial) (V c)
          show 0 + needA ⟨r, x, e, nxL Q (k + 1)⟩ k (V c) sl' + 2 * atg ⟨r, x, e, .pc k 2⟩ k ≤ _ + 2 * atg ⟨r, x, e, nxL Q (k + 1)⟩ k
          omega
        · obtain ⟨m1, m2, m3⟩ := hm rfl
          change x < r at m1
          change x ≤ V c at m2
          change r ≤ x + 1 at m3
          have hb : needA ⟨r, x, e, .pc k 3⟩ k (V c) false = 1 := if_pos rfl
          rw [hb]
          by_cases hv : V c = x
          · have he : (stPc Q V ⟨r, x, e, .pc k 3⟩ k 3 (.aw c)).2 = .slp c := if_pos hv
            have hsl := hs c he
            rw [he]
            show 0 + (if k = k then (if sl' = true then 1 else if V c < r then 2 else 1) else 0) + 2 * (if k ≤ k then r else r - 1) ≤ 1 + 2 * (if k ≤ k then r else r - 1)
            rw [if_pos (c := k = k) rfl, if_pos hsl]
            omega
          · have he : (stPc Q V ⟨r, x, e, .pc k 3⟩ k 3 (.aw c)).2 = .no := if_neg hv
            rw [he]
            show 0 + (if k = k then (if sl' = true then 1 else if V c < r then 2 else 1) else 0) + 2 * (if k ≤ k then r else r - 1) ≤ 1 + 2 * (if k ≤ k then r else r - 1)
            rw [if_pos (c := k = k) rfl, if_neg (show ¬ V c < r by omega)]
            split <;> omega
        · show 0 + (if k = k then (if V c < r then 2 else 1) else 0) + 2 * (if k ≤ k then r else r - 1) ≤ (if k = k then (if false = true then 1 else if V c < r then 2 else 1) else 0) + 2 * (if k ≤ k then r else r - 1)
          rw [if_pos (c := k = k) rfl, if_pos (c := k = k) rfl, if_neg (c := false = true) (by decide)]
          omega
      · have hdc : d ≠ c := fun h => hkq (hu k (by rw [hz, h]))
        have hb : needA ⟨r, x, e, .pc k o⟩ q (V c) false = 0 := if_neg hkq
        rw [hb]
        rcases hcase with rfl | rfl | rfl | rfl | rfl
        · show (if (6 : Int) = 6 ∧ d = c then 1 else 0) + (if k = q then _ else 0) + 2 * (if q ≤ k then r else r - 1) ≤ 0 + 2 * (if q ≤ k then r else r - 1)
          rw [if_neg fun h => hdc h.2, if_neg hkq]
          omega
        · show 0 + needA ⟨r, x, e, if x < r then .pc k 3 else .pc k 2⟩ q (V c) sl' + 2 * (if q ≤ k then r else r - 1) ≤ 0 + 2 * atg ⟨r, x, e, if x < r then .pc k 3 else .pc k 2⟩ q
          split
          · show 0 + (if k = q then _ else 0) + 2 * _ ≤ 0 + 2 * (if q ≤ k then r else r - 1)
            rw [if_neg hkq]
            omega
          · show 0 + (if k = q then _ else 0) + 2 * _ ≤ 0 + 2 * (if q ≤ k then r else r - 1)
            rw [if_neg hkq]
            omega
        · have := out (.inr trivial) (V c)
          show 0 + needA ⟨r, x, e, nxL Q (k + 1)⟩ q (V c) sl' + 2 * atg ⟨r, x, e, .pc k 2⟩ q ≤ 0 + 2 * atg ⟨r, x, e, nxL Q (k + 1)⟩ q
          omega
        · have he : ∀ ef, (ef = Ef.slp d ∨ ef = .no) → ldC c ef + needA ⟨r, x, e, .pc k 4⟩ q (efV V ef c) sl' + 2 * (if q ≤ k then r else r - 1) ≤ 0 + 2 * (if q ≤ k then r else r - 1) := fun ef hef => by
            have h1 : needA ⟨r, x, e, .pc k 4⟩ q (efV V ef c) sl' = 0 := if_neg hkq
            rw [h1]
            rcases hef with rfl | rfl <;> (show 0 + 0 + _ ≤ _; omega)
          by_cases hv : V d = x
          · have he2 : (stPc Q V ⟨r, x, e, .pc k 3⟩ k 3 (.aw d)).2 = .slp d := if_pos hv
            rw [he2]
            exact he _ (.inl rfl)
          · have he2 : (stPc Q V ⟨r, x, e, .pc k 3⟩ k 3 (.aw d)).2 = .no := if_neg hv
            rw [he2]
            exact he _ (.inr rfl)
        · show 0 + (if k = q then _ else 0) + 2 * (if q ≤ k then r else r - 1) ≤ 0 + 2 * (if q ≤ k then r else r - 1)
          rw [if_neg hkq]
          omega
    · have hkq : k ≠ q := fun h => by
        subst h
        rw [hq] at hz
        cases hz
      have hb : needA ⟨r, x, e, .pc k o⟩ q (V c) false = 0 := if_neg hkq
      rw [hb]
      rcases o with _ | o
      · show (if (7 : Int) = 6 ∧ d = c then 1 else 0) + (if k = q then _ else 0) + 2 * (if q ≤ k then r else r - 1) ≤ 0 + 2 * (if q ≤ k then r else r - 1)
        rw [if_neg fun h => absurd h.1 (by decide), if_neg hkq]
        omega
      · have := out (.inr trivial) (V c)
        show 0 + needA ⟨r, x, e, nxL Q (k + 1)⟩ q (V c) sl' + 2 * atg ⟨r, x, e, .pc k (o + 1)⟩ q ≤ 0 + 2 * atg ⟨r, x, e, nxL Q (k + 1)⟩ q
        omega

/-- Who waits nowhere at a cell does not look at it. -/
theorem ld_none (hn : ∀ z ∈ Q, (∃ d, z = .aw d) ∨ ∃ d s, z = .tl d s) (hu : ∀ k : Nat, Q[k]? ≠ some (Pc.aw c)) (hlo : LocOk Q a.l) : ldC c (stA R Q V a).2 = 0 := by
  obtain ⟨r, x, e, l⟩ := a
  cases l with
  | pc k o =>
    obtain ⟨z, hz, hoz⟩ := hlo
    rw [stA_pc hz]
    rcases hn z (List.mem_of_getElem? hz) with ⟨d, rfl⟩ | ⟨d, s, rfl⟩
    · have hdc : d ≠ c := fun h => hu k (by rw [hz, h])
      rcases o with _ | _ | _ | _ | o
      · show (if (6 : Int) = 6 ∧ d = c then 1 else 0) = 0
        rw [if_neg fun h => hdc h.2]
      · rfl
      · rfl
      · show ldC c (if V d = x then Ef.slp d else .no) = 0
        split <;> rfl
      · rfl
    · rcases o with _ | o
      · show (if (7 : Int) = 6 ∧ d = c then 1 else 0) = 0
        rw [if_neg fun h => absurd h.1 (by decide)]
      · rfl
  | _ => rfl

/-- Who tells a cell: own steps. -/
theorem tell_own {p s0 : Nat} (hp : Q[p]? = some (.tl c s0)) (hn : ∀ z ∈ Q, (∃ d, z = .aw d) ∨ ∃ d s, z = .tl d s) (hu : ∀ k s : Nat, Q[k]? = some (Pc.tl c s) → k = p) (hlo : LocOk Q a.l) (hr : RegOk R a) (hV : V c = tg Q a p) :
    stC c (stA R Q V a).2 + pendA (stA R Q V a).1 p + wkC c (stA R Q V a).2 + 2 * V c ≤ pendA a p + 2 * efV V (stA R Q V a).2 c := by
  obtain ⟨r, x, e, l⟩ := a
  cases l with
  | pc k o =>
    have hr1 : 1 ≤ r := hr.1
    obtain ⟨z, hz, hoz⟩ := hlo
    rw [stA_pc hz]
    rcases hn z (List.mem_of_getElem? hz) with ⟨d, rfl⟩ | ⟨d, s, rfl⟩
    · have hkp : k ≠ p := fun h => by
        subst h
        rw [hp] at hz
        cases hz
      have hb : ∀ o' x' f, f = NL.pc k o' → pendA ⟨r, x', e, f⟩ p = 0 := fun o' x' f hf => by
        subst hf
        rcases o' with _ | o'
        · rfl
        · exact if_neg hkp
      rcases o with _ | _ | _ | _ | o
      · show (if (6 : Int) ≠ 6 ∧ d = c then 1 else 0) + pendA ⟨r, V d, e, .pc k 1⟩ p + 0 + 2 * V c ≤ 0 + 2 * (if c = d then V d else V c)
        rw [if_neg fun h => h.1 rfl, hb 1 _ _ rfl]
        split
        · rename_i h; rw [h]; omega
        · omega
      · show 0 + pendA ⟨r, x, e, if x < r then .pc k 3 else .pc k 2⟩ p + 0 + 2 * V c ≤ _ + 2 * V c
        split
        · rw [hb 3 _ _ rfl]; omega
        · rw [hb 2 _ _ rfl]; omega
      · show 0 + pendA ⟨r, x, e, nxL Q (k + 1)⟩ p + 0 + 2 * V c ≤ _ + 2 * V c
        rw [pend_nx]
        omega
      · have h1 : pendA (stPc Q V ⟨r, x, e, .pc k 3⟩ k 3 (.aw d)).1 p = 0 := hb 4 x _ rfl
        by_cases hv : V d = x
        · have he2 : (stPc Q V ⟨r, x, e, .pc k 3⟩ k 3 (.aw d)).2 = .slp d := if_pos hv
          rw [show (stPc Q V ⟨r, x, e, .pc k (0 + 1 + 1 + 1)⟩ k (0 + 1 + 1 + 1) (.aw d)) = (stPc Q V ⟨r, x, e, .pc k 3⟩ k 3 (.aw d)) from rfl, h1, he2]
          show 0 + 0 + 0 + 2 * V c ≤ _ + 2 * V c
          omega
        · have he2 : (stPc Q V ⟨r, x, e, .pc k 3⟩ k 3 (.aw d)).2 = .no := if_neg hv
          rw [show (stPc Q V ⟨r, x, e, .pc k (0 + 1 + 1 + 1)⟩ k (0 + 1 + 1 + 1) (.aw d)) = (stPc Q V ⟨r, x, e, .pc k 3⟩ k 3 (.aw d)) from rfl, h1, he2]
          show 0 + 0 + 0 + 2 * V c ≤ _ + 2 * V c
          omega
      · show 0 + pendA ⟨r, x, e, .pc k 0⟩ p + 0 + 2 * V c ≤ _ + 2 * V c
        rw [hb 0 _ _ rfl]
        omega
    · rcases o with _ | o
      · by_cases hdc : d = c
        · subst hdc
          have hkp := hu k s hz
          subst hkp
          have hv : V d = r - 1 := by
            rw [hV, tg, done_tl0 hz, if_neg (Nat.lt_irrefl _)]
          show (if (7 : Int) ≠ 6 ∧ d = d then 1 else 0) + (if k = k then 1 else 0) + 0 + 2 * V d ≤ 0 + 2 * (if d = d then r else V d)
          rw [if_pos ⟨by decide, rfl⟩, if_pos (c := k = k) rfl, if_pos (c := d = d) rfl]
          omega
        · have hkp : k ≠ p := fun h => by
            subst h
            rw [hp] at hz
            injection hz with hz
            injection hz with h1 _
            exact hdc h1.symm
          show (if (7 : Int) ≠ 6 ∧ d = c then 1 else 0) + (if k = p then 1 else 0) + 0 + 2 * V c ≤ 0 + 2 * (if c = d then r else V c)
          rw [if_neg fun h => hdc h.2, if_neg hkp, if_neg fun h => hdc h.symm]
          omega
      · show 0 + pendA ⟨r, x, e, nxL Q (k + 1)⟩ p + (if d = c then 1 else 0) + 2 * V c ≤ (if k = p then 1 else 0) + 2 * V c
        rw [pend_nx]
        by_cases hdc : d = c
        · subst hdc
          have hkp := hu k s hz
          rw [if_pos rfl, if_pos hkp]
          omega
        · rw [if_neg hdc]
          omega
  | head =>
    show 0 + pendA ⟨r, x, e, if r < e then .came else .halt⟩ p + 0 + 2 * V c ≤ 0 + 2 * V c
    split <;> (show 0 + 0 + 0 + 2 * V c ≤ 0 + 2 * V c; omega)
  | came =>
    show 0 + pendA ⟨r, x, e, nxL Q 0⟩ p + 0 + 2 * V c ≤ 0 + 2 * V c
    rw [pend_nx]
    omega
  | _ => (show 0 + 0 + 0 + 2 * V c ≤ 0 + 2 * V c; omega)

/-- Who tells a cell nowhere neither stores there nor wakes. -/
theorem tell_none (hn : ∀ z ∈ Q, (∃ d, z = .aw d) ∨ ∃ d s, z = .tl d s) (hu : ∀ k s : Nat, Q[k]? ≠ some (Pc.tl c s)) (hlo : LocOk Q a.l) : stC c (stA R Q V a).2 = 0 ∧ wkC c (stA R Q V a).2 = 0 ∧ efV V (stA R Q V a).2 c = V c := by
  obtain ⟨r, x, e, l⟩ := a
  cases l with
  | pc k o =>
    obtain ⟨z, hz, hoz⟩ := hlo
    rw [stA_pc hz]
    rcases hn z (List.mem_of_getElem? hz) with ⟨d, rfl⟩ | ⟨d, s, rfl⟩
    · rcases o with _ | _ | _ | _ | o
      · refine ⟨?_, rfl, ?_⟩
        · show (if (6 : Int) ≠ 6 ∧ d = c then 1 else 0) = 0
          rw [if_neg fun h => h.1 rfl]
        · show (if c = d then V d else V c) = V c
          split
          · rename_i h; rw [h]
          · rfl
      · exact ⟨rfl, rfl, rfl⟩
      · exact ⟨rfl, rfl, rfl⟩
      · show stC c (if V d = x then Ef.slp d else .no) = 0 ∧ wkC c (if V d = x then Ef.slp d else .no) = 0 ∧ efV V (if V d = x then Ef.slp d else .no) c = V c
        split <;> exact ⟨rfl, rfl, rfl⟩
      · exact ⟨rfl, rfl, rfl⟩
    · have hdc : d ≠ c := fun h => hu k s (by rw [hz, h])
      rcases o with _ | o
      · refine ⟨?_, rfl, ?_⟩
        · show (if (7 : Int) ≠ 6 ∧ d = c then 1 else 0) = 0
          rw [if_neg fun h => hdc h.2]
        · show (if c = d then r else V c) = V c
          rw [if_neg fun h => hdc h.symm]
      · refine ⟨rfl, ?_, rfl⟩
        show (if d = c then 1 else 0) = 0
        rw [if_neg hdc]
  | _ => exact ⟨rfl, rfl, rfl⟩

end
end Go.Mac
end

/- Networks: acts at a cell, step by step; and for kinds where two meet. -/
section
open Go Go.Proofs Go.Mac
set_option maxRecDepth 100000
namespace Go.Mac

/-- What holds of acts and sleepers, step by step, if nobody is woken for nothing. -/
def KeptS (n R : Nat) (P : Nat → List Pc) (I : (Nat → AT) → (Nat → Nat) → List Slp → Prop) (J : (Nat → AT) → (Nat → Nat) → List Slp → List ActZ → Prop) : Prop :=
  ∀ A V ss al k t, I A V ss → J A V ss al → t < n → LocOk (P t) (A t).l → isEnd (A t).l = false → noT ss t →
    J (updA A t (stA R (P t) V (A t)).1) (efV V (stA R (P t) V (A t)).2) (efS t ss (stA R (P t) V (A t)).2) (efA (k + 1) t al (stA R (P t) V (A t)).2)

section
variable {n nc R : Nat} {P : Nat → List Pc} {I : (Nat → AT) → (Nat → Nat) → List Slp → Prop} {F : (Nat → AT) → (Nat → Nat) → List Slp → Nat} {b : Nat} {A : Nat → AT} {V : Nat → Nat} {m : MZ} {J : (Nat → AT) → (Nat → Nat) → List Slp → List ActZ → Prop}

theorem DI.goS (hB : Bar n R P I F) (hJ : KeptS n R P I J) (h : DI n nc R P I F b A V m) (j : J A V m.ss m.al) {t : Nat} (hc : canZ m t = true) (hk : m.k < 20000) : ∃ A' V', DI n nc R P I F b A' V' (stepZ m t).2 ∧ J A' V' (stepZ m t).2.ss (stepZ m t).2.al := by
  obtain ⟨g1, g2, g3, g4, g5⟩ := h.abs.go hc hk
  obtain ⟨ht, hd, hno⟩ := h.abs.can hc
  obtain ⟨i1, i2⟩ := hB.go A V m.ss t h.inv ht (h.abs.lo t ht) hd hno
  have hp := h.pot
  refine ⟨_, _, ⟨g1, by rw [g2]; exact i1, ?_, by rw [g2, g5]; omega⟩, ?_⟩
  · rw [g4]
    exact h.ev.go ht (hB.reg A V m.ss h.inv t ht) fun hg => hB.safe A V m.ss t h.inv ht hg
  · rw [g2, g3]
    exact hJ A V m.ss m.al m.k t h.inv j ht (h.abs.lo t ht) hd hno

theorem DI.stepS (hB : Bar n R P I F) (hJ : KeptS n R P I J) (h : DI n nc R P I F b A V m) (j : J A V m.ss m.al) (t : Int) : ∃ A' V', DI n nc R P I F b A' V' (stepZ m t).2 ∧ J A' V' (stepZ m t).2.ss (stepZ m t).2.al := by
  rcases step_or h.abs.wf t with e | ⟨s, rfl, hc, hk⟩
  · rw [e]; exact ⟨A, V, h, j⟩
  · exact h.goS hB hJ j hc hk

theorem DI.finishS (hB : Bar n R P I F) (hJ : KeptS n R P I J) (h : DI n nc R P I F b A V m) (j : J A V m.ss m.al) (hb : b < 20000) : ∃ A' V', DI n nc R P I F b A' V' (Go.Mac.finish m) ∧ J A' V' (Go.Mac.finish m).ss (Go.Mac.finish m).al ∧ ∀ t, t < n → (A' t).l = .ended := by
  obtain ⟨⟨A', V', h', j'⟩, hn⟩ := finish_inv (P := fun m => ∃ A V, DI n nc R P I F b A V m ∧ J A V m.ss m.al) (fun m t h hc hk => by obtain ⟨A, V, h, j⟩ := h; exact h.goS hB hJ j hc hk) ⟨A, V, h, j⟩ h.abs.wf
  refine ⟨A', V', h', j', ?_⟩
  refine hB.live A' V' _ h'.inv fun t ht => ?_
  have hp := h'.pot
  have hx := h'.abs.ts t ht
  have hc : ¬ canZ (Go.Mac.finish m) (t : Int) = true := fun hc => hn t (by rw [h'.abs.ln]; exact ht) ⟨hc, by omega⟩
  by_cases hd : isEnd (A' t).l = true
  · left
    cases hl : (A' t).l <;> rw [hl] at hd <;> first | rfl | cases hd
  · right
    refine Classical.byContradiction fun hne => hc (can_in hx (show isEnd (A' t).l = false by simpa using hd) fun s hs e => hne ⟨s, hs, e⟩)

end

/-! ### Networks -/

theorem wake_keep {c N : Int} : ∀ {l : List Slp} {k : Nat} {s : Slp}, s ∈ l → s.c ≠ c → s ∈ (wakeL c N k l).2
  | x :: xs, k, s, hs, hc => by
    rw [wakeL]
    rcases List.mem_cons.1 hs with rfl | hs
    · rw [if_neg fun h => hc h.1]
      exact List.mem_cons_self ..
    · split
      · exact wake_keep hs hc
      · exact List.mem_cons_of_mem _ (wake_keep hs hc)

theorem wake_sub {c N : Int} : ∀ {l : List Slp} {k : Nat} {s : Slp}, s ∈ (wakeL c N k l).2 → s ∈ l
  | [], _, _, h => h
  | x :: xs, k, s, h => by
    rw [wakeL] at h
    split at h
    · exact List.mem_cons_of_mem _ (wake_sub h)
    · rcases List.mem_cons.1 h with rfl | h
      · exact List.mem_cons_self ..
      · exact List.mem_cons_of_mem _ (wake_sub h)

theorem slB_iff {ss : List Slp} {u : Nat} : slB ss u = true ↔ ∃ s ∈ ss, s.t = (u : Int) := by
  rw [slB, List.any_eq_true]
  constructor
  · rintro ⟨s, hs, h⟩; exact ⟨s, hs, by simpa using h⟩
  · rintro ⟨s, hs, h⟩; exact ⟨s, hs, by simpa using h⟩

def needC (rd : Nat → Option (Nat × Nat)) (A : Nat → AT) (V : Nat → Nat) (ss : List Slp) (c : Nat) : Nat :=
  match rd c with
  | some (u, q) => needA (A u) q (V c) (slB ss u)
  | none => 0
def atC (rd : Nat → Option (Nat × Nat)) (A : Nat → AT) (c : Nat) : Nat :=
  match rd c with
  | some (u, q) => atg (A u) q
  | none => 0
def pendC (wr : Nat → Option (Nat × Nat)) (A : Nat → AT) (c : Nat) : Nat :=
  match wr c with
  | some (t, p) => pendA (A t) p
  | none => 0

def ThJ (rd wr : Nat → Option (Nat × Nat)) (A : Nat → AT) (V : Nat → Nat) (ss : List Slp) (al : List ActZ) : Prop :=
  ∀ c, cntC c al + needC rd A V ss c + pendC wr A c ≤ 2 * V c + 2 * atC rd A c

/-- Each cell has one who waits there. -/
structure RdOk (n : Nat) (P : Nat → List Pc) (rd wr : Nat → Option (Nat × Nat)) : Prop where
  aw : ∀ t, t < n → ∀ (k c : Nat), (P t)[k]? = some (.aw c) → rd c = some (t, k)
  rd : ∀ c t k, rd c = some (t, k) → t < n ∧ (P t)[k]? = some (.aw c)
  wr : ∀ c t k, wr c = some (t, k) → t < n ∧ ∃ s, (P t)[k]? = some (.tl c s)

theorem thin_kept {n R : Nat} {P : Nat → List Pc} {rd wr : Nat → Option (Nat × Nat)} (hT : NetOk n P wr) (hR : RdOk n P rd wr) : KeptS n R P (NI n R P wr) (ThJ rd wr) := by
  intro A V ss al k0 t hI hJ ht hlo hd hno c
  have hn : ∀ z ∈ P t, (∃ d, z = .aw d) ∨ ∃ d s, z = .tl d s := fun z hz => by
    rcases hT.kind t ht z hz with h | ⟨d, s, h, _⟩
    · exact .inl h
    · exact .inr ⟨d, s, h⟩
  have hreg := hI.reg t ht
  have hj := hJ c
  have hcnt := cnt_ef c (k0 + 1) t al (stA R (P t) V (A t)).2
  rw [hcnt]
  have hVm : V c ≤ efV V (stA R (P t) V (A t)).2 c := by
    have h := fun {o c' x y} (h : (stA R (P t) V (A t)).2 = .act o c' x y) => net_eff hT hI ht hlo h
    cases he : (stA R (P t) V (A t)).2 with
    | act o d x y =>
      show V c ≤ if c = d then y else V c
      split
      · rename_i hcd
        rw [hcd]
        rcases h he with ⟨_, h1⟩ | ⟨_, h1⟩ <;> omega
      · exact Nat.le_refl _
    | _ => exact Nat.le_refl _
  have hslt : slB ss t = false := by
    rw [Bool.eq_false_iff]
    intro h
    obtain ⟨s, hs, e⟩ := slB_iff.1 h
    exact hno s hs e
  -- who waits
  have hW : ldC c (stA R (P t) V (A t)).2 + needC rd (updA A t (stA R (P t) V (A t)).1) (efV V (stA R (P t) V (A t)).2) (efS t ss (stA R (P t) V (A t)).2) c + 2 * atC rd A c ≤ needC rd A V ss c + 2 * atC rd (updA A t (stA R (P t) V (A t)).1) c + wkC c (stA R (P t) V (A t)).2 := by
    unfold needC atC
    cases hrd : rd c with
    | none =>
      have := ld_none (R := R) (V := V) (a := A t) hn (fun k h => by rw [hR.aw t ht k c h] at hrd; cases hrd) hlo
      dsimp only
      omega
    | some uq =>
      obtain ⟨u, q⟩ := uq
      obtain ⟨hu, hq⟩ := hR.rd c u q hrd
      dsimp only
      by_cases hut : u = t
      · subst hut
        rw [updA_same, hslt]
        have := low_own (sl' := slB (efS u ss (stA R (P u) V (A u)).2) u) hq hn (fun k hk => by
          have := hR.aw u hu k c hk
          rw [hrd] at this
          exact (Prod.mk.inj (Option.some.inj this)).2.symm) hlo hreg (fun hl => hI.mic u hu q 3 c hl hq) (fun d he => by
          rw [he]
          exact slB_iff.2 ⟨⟨u, d⟩, List.mem_append_right _ (List.mem_singleton.2 rfl), rfl⟩)
        omega
      · rw [updA_ne _ _ hut]
        have h0 := ld_none (c := c) (R := R) (V := V) (a := A t) hn (fun k h => by
          have := hR.aw t ht k c h
          rw [hrd] at this
          exact hut (Prod.mk.inj (Option.some.inj this)).1) hlo
        rw [h0]
        have h1 := needA_mono (a := A u) (q := q) (sl := slB (efS t ss (stA R (P t) V (A t)).2) u) hVm
        have h2 : needA (A u) q (V c) (slB (efS t ss (stA R (P t) V (A t)).2) u) ≤ needA (A u) q (V c) (slB ss u) + wkC c (stA R (P t) V (A t)).2 := by
          cases he : (stA R (P t) V (A t)).2 with
          | slp d =>
            have : slB (efS t ss (.slp d)) u = slB ss u := by
              rw [Bool.eq_iff_iff, slB_iff, slB_iff]
              constructor
              · rintro ⟨s, hs, e⟩
                rcases List.mem_append.1 hs with hs | hs
                · exact ⟨s, hs, e⟩
                · rw [List.mem_singleton.1 hs] at e
                  exact absurd (show u = t by dsimp only at e; omega) hut
              · rintro ⟨s, hs, e⟩; exact ⟨s, List.mem_append_left _ hs, e⟩
            rw [this]
            exact Nat.le_add_right _ _
          | wk d N =>
            by_cases hdc : d = c
            · subst hdc
              have h3 := needA_wake (A u) q (V d) (slB ss u) (slB (efS t ss (.wk d N)) u)
              show _ ≤ _ + if d = d then 1 else 0
              rw [if_pos rfl]
              exact h3
            · refine Nat.le_trans (Nat.le_of_eq ?_) (Nat.le_add_right _ _)
              cases hs1 : slB ss u with
              | false =>
                have : slB (efS t ss (.wk d N)) u = false := by
                  rw [Bool.eq_false_iff]
                  intro h
                  obtain ⟨s, hs, e⟩ := slB_iff.1 h
                  have := slB_iff.2 ⟨s, wake_sub hs, e⟩
                  rw [hs1] at this
                  cases this
                rw [this]
              | true =>
                obtain ⟨s, hs, e⟩ := slB_iff.1 hs1
                obtain ⟨t', k', c', ht', hse, hl, hk', _⟩ := hI.slp s hs
                have htu : t' = u := by rw [hse] at e; dsimp only at e; omega
                subst htu
                by_cases hkq : k' = q
                · subst hkq
                  have hcc : c' = c := by
                    rw [hq] at hk'
                    injection hk' with h
                    injection h with h
                    exact h.symm
                  subst hcc
                  have : slB (efS t ss (.wk d N)) t' = true := slB_iff.2 ⟨s, wake_keep hs (by rw [hse]; dsimp only; omega), e⟩
                  rw [this]
                · have hz : ∀ sl, needA (A t') q (V c) sl = 0 := fun sl => by
                    unfold needA
                    rw [hl]
                    exact if_neg hkq
                  rw [hz, hz]
          | act o d x y => exact Nat.le_refl _
          | no => exact Nat.le_refl _
          | say b x => exact Nat.le_refl _
        omega
  -- who tells
  have hTl : stC c (stA R (P t) V (A t)).2 + pendC wr (updA A t (stA R (P t) V (A t)).1) c + wkC c (stA R (P t) V (A t)).2 + 2 * V c ≤ pendC wr A c + 2 * efV V (stA R (P t) V (A t)).2 c := by
    unfold pendC
    have other : (∀ k s : Nat, (P t)[k]? ≠ some (Pc.tl c s)) → stC c (stA R (P t) V (A t)).2 = 0 ∧ wkC c (stA R (P t) V (A t)).2 = 0 ∧ efV V (stA R (P t) V (A t)).2 c = V c := fun h => tell_none hn h hlo
    cases hwr : wr c with
    | none =>
      obtain ⟨h1, h2, h3⟩ := other fun k s h => by rw [hT.tl t ht k c s h] at hwr; cases hwr
      dsimp only
      omega
    | some tp =>
      obtain ⟨t0, p⟩ := tp
      obtain ⟨ht0, s0, hp⟩ := hR.wr c t0 p hwr
      dsimp only
      by_cases htt : t0 = t
      · subst htt
        rw [updA_same]
        exact tell_own hp hn (fun k s hk => by
          have := hT.tl t0 ht k c s hk
          rw [hwr] at this
          exact (Prod.mk.inj (Option.some.inj this)).2.symm) hlo hreg (hI.cell t0 ht p c s0 hp)
      · rw [updA_ne _ _ htt]
        obtain ⟨h1, h2, h3⟩ := other fun k s h => by
          have := hT.tl t ht k c s h
          rw [hwr] at this
          exact htt (Prod.mk.inj (Option.some.inj this)).1
        omega
  omega

/-! ### Graphs -/

def whereW (c : Nat) : List Pc → Nat → Option Nat
  | [], _ => none
  | x :: xs, k => if isAw c x = true then some k else whereW c xs (k + 1)
def rdW (c : Nat) : List (List Pc) → Nat → Option (Nat × Nat)
  | [], _ => none
  | Q :: l, t => match whereW c Q 0 with
    | some k => some (t, k)
    | none => rdW c l (t + 1)

theorem whereW_get {c : Nat} : ∀ {Q : List Pc} {k j : Nat}, whereW c Q k = some j → ∃ i, j = k + i ∧ Q[i]? = some (.aw c)
  | [], _, _, h => by cases h
  | x :: xs, k, j, h => by
    rw [whereW] at h
    split at h
    · rename_i hx
      refine ⟨0, by have := Option.some.inj h; omega, ?_⟩
      cases x with
      | aw d =>
        have : d = c := by simpa [isAw] using hx
        subst this
        rfl
      | _ => cases hx
    · obtain ⟨i, h1, h2⟩ := whereW_get h
      exact ⟨i + 1, by omega, h2⟩

theorem rdW_get {c : Nat} : ∀ {l : List (List Pc)} {t u q : Nat}, rdW c l t = some (u, q) → ∃ i, u = t + i ∧ i < l.length ∧ (ofL l i)[q]? = some (.aw c)
  | [], _, _, _, h => by cases h
  | Q :: l, t, u, q, h => by
    rw [rdW] at h
    split at h
    · rename_i k hk
      obtain ⟨h1, h2⟩ := Prod.mk.inj (Option.some.inj h)
      obtain ⟨i, h3, h4⟩ := whereW_get hk
      refine ⟨0, by omega, by simp, ?_⟩
      show Q[q]? = _
      rw [← h2, h3, Nat.zero_add]
      exact h4
    · obtain ⟨i, h1, h2, h3⟩ := rdW_get h
      exact ⟨i + 1, by omega, by simpa using h2, h3⟩

theorem whereT_get {c : Nat} : ∀ {Q : List Pc} {k j : Nat}, whereT c Q k = some j → ∃ i, j = k + i ∧ ∃ s, Q[i]? = some (.tl c s)
  | [], _, _, h => by cases h
  | x :: xs, k, j, h => by
    rw [whereT] at h
    split at h
    · rename_i hx
      refine ⟨0, by have := Option.some.inj h; omega, ?_⟩
      cases x with
      | tl d s =>
        have : d = c := by simpa [tells] using hx
        subst this
        exact ⟨s, rfl⟩
      | _ => cases hx
    · obtain ⟨i, h1, h2⟩ := whereT_get h
      exact ⟨i + 1, by omega, h2⟩

theorem wrL_get {c : Nat} : ∀ {l : List (List Pc)} {t u q : Nat}, wrL c l t = some (u, q) → ∃ i, u = t + i ∧ i < l.length ∧ ∃ s, (ofL l i)[q]? = some (.tl c s)
  | [], _, _, _, h => by cases h
  | Q :: l, t, u, q, h => by
    rw [wrL] at h
    split at h
    · rename_i k hk
      obtain ⟨h1, h2⟩ := Prod.mk.inj (Option.some.inj h)
      obtain ⟨i, h3, s, h4⟩ := whereT_get hk
      refine ⟨0, by omega, by simp, s, ?_⟩
      show Q[q]? = _
      rw [← h2, h3, Nat.zero_add]
      exact h4
    · obtain ⟨i, h1, h2, h3⟩ := wrL_get h
      exact ⟨i + 1, by omega, by simpa using h2, h3⟩

/-- One waits at each cell. -/
def oneB (k n : Nat) : Bool :=
  (List.range n).all fun t => (List.range (kindP k n t).length).all fun j => match (kindP k n t)[j]? with
    | some (.aw c) => rdW c (kindL k n) 0 == some (t, j)
    | _ => true

theorem one4 : ((List.range 16).all fun m => oneB 4 (m + 1)) = true := by decide +kernel
theorem one5 : ((List.range 16).all fun m => oneB 5 (m + 1)) = true := by decide +kernel
theorem one6 : ((List.range 16).all fun m => oneB 6 (m + 1)) = true := by decide +kernel

theorem rd_ok {k n : Nat} (hk : 4 ≤ k ∧ k ≤ 6) (hn : 1 ≤ n ∧ n ≤ 16) : RdOk n (PP k n) (fun c => rdW c (kindL k n) 0) (fun c => wrL c (kindL k n) 0) := by
  have hb : oneB k n = true := by
    rcases (show k = 4 ∨ k = 5 ∨ k = 6 by omega) with rfl | rfl | rfl
    · exact of16 (f := oneB 4) one4 hn
    · exact of16 (f := oneB 5) one5 hn
    · exact of16 (f := oneB 6) one6 hn
  refine ⟨fun t ht j c h => ?_, fun c t j h => ?_, fun c t j h => ?_⟩
  · rw [PP_get ht] at h
    have h3 := all_range (all_range hb ht) (List.getElem?_eq_some_iff.1 h).1
    rw [h] at h3
    simpa using h3
  · obtain ⟨i, h1, h2, h3⟩ := rdW_get h
    rw [kindL_len] at h2
    have : t = i := by omega
    subst this
    exact ⟨h2, h3⟩
  · obtain ⟨i, h1, h2, h3⟩ := wrL_get h
    rw [kindL_len] at h2
    have : t = i := by omega
    subst this
    exact ⟨h2, h3⟩

end Go.Mac
end

/- A tree of counts, each of two: how many acts are done to a cell. -/
section
open Go Go.Proofs Go.Mac
set_option maxRecDepth 100000
namespace Go.Mac

def actC (c : Nat) : Ef → Nat
  | .act _ d _ _ => if d = c then 1 else 0
  | _ => 0

theorem cnt_act (c k t : Nat) (al : List ActZ) (e : Ef) : cntC c (efA k t al e) = cntC c al + actC c e := by
  cases e with
  | act o d x y =>
    show cntC c (al ++ [⟨_, _, o, (d : Int), _, _⟩]) = _
    rw [cntC_snoc]
    show _ + (if (d : Int) = (c : Int) then 1 else 0) = _ + (if d = c then 1 else 0)
    by_cases hd : d = c
    · rw [if_pos (by omega), if_pos hd]
    · rw [if_neg (by omega), if_neg hd]
  | _ => rfl

def slC (c : Nat) (ss : List Slp) : Nat := ss.countP fun s => s.c == (c : Int)

theorem slC_wake {c d : Nat} {N : Nat} : ∀ (l : List Slp) (k : Nat), slC c l ≤ slC c (wakeL d N k l).2 + if d = c then N - k else 0
  | [], k => Nat.zero_le _
  | x :: xs, k => by
    rw [wakeL]
    split
    · rename_i h
      have ih := slC_wake (c := c) (d := d) (N := N) xs (k + 1)
      by_cases hdc : d = c
      · subst hdc
        rw [if_pos rfl] at ih ⊢
        rw [slC, List.countP_cons_of_pos (by simpa using h.1)]
        have h2 : (k : Int) < (N : Int) := h.2
        show slC d xs + 1 ≤ slC d (wakeL (d : Int) (N : Int) (k + 1) xs).2 + (N - k)
        omega
      · rw [if_neg hdc] at ih ⊢
        rw [slC, List.countP_cons_of_neg (by have := h.1; simp; omega)]
        show slC c xs ≤ slC c (wakeL (d : Int) (N : Int) (k + 1) xs).2 + 0
        omega
    · have ih := slC_wake (c := c) (d := d) (N := N) xs k
      show slC c (x :: xs) ≤ slC c (x :: (wakeL (d : Int) (N : Int) k xs).2) + _
      rw [slC, slC, List.countP_cons, List.countP_cons, ← slC, ← slC]
      omega

/-- How often one may still look, asleep or not. -/
def needW (a : AT) (g : Nat) : Nat → Nat
  | 0 => if g < a.r then 2 else 1
  | 1 => if a.x < a.r then 1 else 0
  | 2 => 0
  | 3 => 1
  | _ => if g < a.r then 2 else 1

def ndO (a : AT) (g : Nat) : Nat → Nat
  | 0 => 0
  | 1 => 2
  | 7 => 0
  | o + 2 => needW a g o

def ndT (h : Nat) (p : Nat → Nat) (v g : Nat) (a : AT) : Nat :=
  match a.l with
  | .pc k o => if k < h ∧ p k = v then ndO a g o else 0
  | _ => 0
def zT (h : Nat) (p : Nat → Nat) (v : Nat) (a : AT) : Nat :=
  match a.l with
  | .pc k 2 => if h ≤ k ∧ p (2 * h - 1 - k) = v then 1 else 0
  | _ => 0
def pdT (h : Nat) (p : Nat → Nat) (v : Nat) (a : AT) : Nat :=
  match a.l with
  | .pc k 3 => if h ≤ k ∧ p (2 * h - 1 - k) = v then 1 else 0
  | _ => 0

theorem needW_mono {a : AT} {g g' o : Nat} (h : g ≤ g') : needW a g' o ≤ needW a g o := by
  rcases o with _ | _ | _ | _ | o
  · show (if g' < a.r then 2 else 1) ≤ if g < a.r then 2 else 1
    split <;> split <;> omega
  · exact Nat.le_refl _
  · exact Nat.le_refl _
  · exact Nat.le_refl _
  · show (if g' < a.r then 2 else 1) ≤ if g < a.r then 2 else 1
    split <;> split <;> omega

theorem ndO_mono {a : AT} {g g' o : Nat} (h : g ≤ g') : ndO a g' o ≤ ndO a g o := by
  rcases o with _ | _ | _ | _ | _ | _ | _ | _ | o
  · exact Nat.le_refl _
  · exact Nat.le_refl _
  · exact needW_mono (a := a) (o := 0) h
  · exact needW_mono (a := a) (o := 1) h
  · exact needW_mono (a := a) (o := 2) h
  · exact needW_mono (a := a) (o := 3) h
  · exact needW_mono (a := a) (o := 4) h
  · exact Nat.le_refl _
  · exact needW_mono (a := a) (o := o + 6) h

theorem ndT_mono {h : Nat} {p : Nat → Nat} {v g g' : Nat} {a : AT} (hg : g ≤ g') : ndT h p v g' a ≤ ndT h p v g a := by
  unfold ndT
  split
  · split
    · exact ndO_mono hg
    · exact Nat.le_refl _
  · exact Nat.le_refl _

theorem nx_zero {Q : List Pc} {h : Nat} {p : Nat → Nat} {v g r x e j : Nat} : ndT h p v g ⟨r, x, e, nxL Q j⟩ = 0 ∧ zT h p v ⟨r, x, e, nxL Q j⟩ = 0 ∧ pdT h p v ⟨r, x, e, nxL Q j⟩ = 0 := by
  rw [nxL]
  split
  · refine ⟨?_, rfl, rfl⟩
    show (if _ then 0 else 0) = 0
    split <;> rfl
  · exact ⟨rfl, rfl, rfl⟩

/-- What a step of a thread comes to, at a node. -/
inductive TOut (S C G z nd pd sl a0 a1 C' G' z' nd' pd' sl' : Nat) : Prop
  | same (hy : G' + z' = G + z) (hG : G ≤ G') (hc : a0 + C ≤ C') (hg : a1 + nd' + 2 * pd' + 2 * C + 3 * G + sl ≤ nd + 2 * pd + 2 * C' + 3 * G' + sl')
  | reset (hz : z' = z + 1) (hG : G' = G) (hC : C' = 0) (hCS : C ≤ S) (h0 : a0 = 1) (h1 : a1 = 0) (hn : nd' = nd) (hp : pd' = pd) (hs : sl' = sl)

section
variable {R h : Nat} {Q : List Pc} {V : Nat → Nat} {a : AT} {p sz : Nat → Nat} {ss : List Slp} {t v : Nat}

set_option maxHeartbeats 2000000 in
theorem tree_own (hlen : Q.length = 2 * h) (hup : ∀ i, i < h → Q[i]? = some (.up (2 * p i) (sz (p i)) (2 * h - i))) (hdn : ∀ i, i < h → Q[2 * h - 1 - i]? = some (.dn (2 * p i) (sz (p i)))) (hinj : ∀ i j, i < h → j < h → p i = p j → i = j)
    (hS : sz v ≤ 2) (hlo : LocOk Q a.l) (hr : RegOk R a) (hmic : ∀ i, i < h → p i = v → a.l = .pc i 5 → MicOk a 3 (V (2 * v + 1))) (hgate : ∀ j, j < h → p j = v → a.l = .pc (2 * h - 1 - j) 2 → V (2 * v + 1) + 1 = a.r) (hfull : ∀ j, j < h → p j = v → a.l = .pc (2 * h - 1 - j) 1 → V (2 * v) ≤ sz v) :
    TOut (sz v) (V (2 * v)) (V (2 * v + 1)) (zT h p v a) (ndT h p v (V (2 * v + 1)) a) (pdT h p v a) (slC (2 * v + 1) ss) (actC (2 * v) (stA R Q V a).2) (actC (2 * v + 1) (stA R Q V a).2)
      (efV V (stA R Q V a).2 (2 * v)) (efV V (stA R Q V a).2 (2 * v + 1)) (zT h p v (stA R Q V a).1) (ndT h p v (efV V (stA R Q V a).2 (2 * v + 1)) (stA R Q V a).1) (pdT h p v (stA R Q V a).1) (slC (2 * v + 1) (efS t ss (stA R Q V a).2)) := by
  -- nothing is done, and nobody is at a place that counts
  have idle : ∀ {a' : AT} {ef : Ef}, (ef = .no ∨ ∃ b y, ef = .say b y) → zT h p v a' = zT h p v a → ndT h p v (V (2 * v + 1)) a' + 2 * pdT h p v a' ≤ ndT h p v (V (2 * v + 1)) a + 2 * pdT h p v a → TOut (sz v) (V (2 * v)) (V (2 * v + 1)) (zT h p v a) (ndT h p v (V (2 * v + 1)) a) (pdT h p v a) (slC (2 * v + 1) ss) (actC (2 * v) ef) (actC (2 * v + 1) ef)
      (efV V ef (2 * v)) (efV V ef (2 * v + 1)) (zT h p v a') (ndT h p v (efV V ef (2 * v + 1)) a') (pdT h p v a') (slC (2 * v + 1) (efS t ss ef)) := by
    intro a' ef he hz hn
    rcases he with rfl | ⟨b, y, rfl⟩
    · exact .same (by rw [hz]; rfl) (Nat.le_refl _) (by show 0 + V (2 * v) ≤ V (2 * v); omega) (by show 0 + ndT h p v (V (2 * v + 1)) a' + 2 * pdT h p v a' + 2 * V (2 * v) + 3 * V (2 * v + 1) + slC (2 * v + 1) ss ≤ ndT h p v (V (2 * v + 1)) a + 2 * pdT h p v a + 2 * V (2 * v) + 3 * V (2 * v + 1) + slC (2 * v + 1) ss; omega)
    · exact .same (by rw [hz]; rfl) (Nat.le_refl _) (by show 0 + V (2 * v) ≤ V (2 * v); omega) (by show 0 + ndT h p v (V (2 * v + 1)) a' + 2 * pdT h p v a' + 2 * V (2 * v) + 3 * V (2 * v + 1) + slC (2 * v + 1) ss ≤ ndT h p v (V (2 * v + 1)) a + 2 * pdT h p v a + 2 * V (2 * v) + 3 * V (2 * v + 1) + slC (2 * v + 1) ss; omega)
  obtain ⟨r, x, e, l⟩ := a
  cases l with
  | p0 => exact idle (.inl rfl) rfl (Nat.le_refl _)
  | p1 => exact idle (.inl rfl) rfl (Nat.le_refl _)
  | head =>
    have : ∀ b : Bool, TOut (sz v) (V (2 * v)) (V (2 * v + 1)) (zT h p v ⟨r, x, e, .head⟩) (ndT h p v (V (2 * v + 1)) ⟨r, x, e, .head⟩) (pdT h p v ⟨r, x, e, .head⟩) (slC (2 * v + 1) ss) (actC (2 * v) .no) (actC (2 * v + 1) .no)
      (efV V .no (2 * v)) (efV V .no (2 * v + 1)) (zT h p v ⟨r, x, e, if b = true then .came else .halt⟩) (ndT h p v (efV V .no (2 * v + 1)) ⟨r, x, e, if b = true then .came else .halt⟩) (pdT h p v ⟨r, x, e, if b = true then .came else .halt⟩) (slC (2 * v + 1) (efS t ss .no)) := fun b => by
      cases b <;> exact idle (.inl rfl) rfl (Nat.le_refl _)
    have h2 := this (decide (r < e))
    simp only [decide_eq_true_eq] at h2
    exact h2
  | halt => exact idle (.inl rfl) rfl (Nat.le_refl _)
  | came =>
    obtain ⟨n1, n2, n3⟩ := nx_zero (Q := Q) (h := h) (p := p) (v := v) (g := V (2 * v + 1)) (r := r) (x := x) (e := e) (j := 0)
    exact idle (a' := ⟨r, x, e, nxL Q 0⟩) (.inr ⟨_, _, rfl⟩) n2 (by rw [n1, n3]; exact Nat.zero_le _)
  | gone => exact idle (.inr ⟨_, _, rfl⟩) rfl (Nat.le_refl _)
  | plus => exact idle (.inl rfl) rfl (Nat.le_refl _)
  | jump => exact idle (.inl rfl) rfl (Nat.le_refl _)
  | ended => exact idle (.inl rfl) rfl (Nat.le_refl _)
  | pc k o =>
    have hr1 : 1 ≤ r := hr.1
    obtain ⟨y, hy, ho⟩ := hlo
    have hkl := (List.getElem?_eq_some_iff.1 hy).1
    have hnx := fun j => nx_zero (Q := Q) (h := h) (p := p) (v := v) (g := V (2 * v + 1)) (r := r) (x := x) (e := e) (j := j)
    by_cases hk : k < h
    · -- on the way up
      have hyu := hup k hk
      rw [hyu] at hy
      obtain rfl := Option.some.inj hy
      have hnk : ¬ h ≤ k := by omega
      have hz0 : ∀ x' o', zT h p v ⟨r, x', e, .pc k o'⟩ = 0 := fun x' o' => by
        rcases o' with _ | _ | _ | o'
        · rfl
        · rfl
        · exact if_neg fun hh => hnk hh.1
        · rfl
      have hp0 : ∀ x' o', pdT h p v ⟨r, x', e, .pc k o'⟩ = 0 := fun x' o' => by
        rcases o' with _ | _ | _ | _ | o'
        · rfl
        · rfl
        · rfl
        · exact if_neg fun hh => hnk hh.1
        · rfl
      rw [stA_pc hyu]
      by_cases hpv : p k = v
      · -- at the node
        have hn0 : ∀ x' g o', ndT h p v g ⟨r, x', e, .pc k o'⟩ = ndO ⟨r, x', e, .pc k o'⟩ g o' := fun x' g o' => if_pos ⟨hk, hpv⟩
        rw [hpv]
        have ho8 : o < 8 := ho
        rcases (show o = 0 ∨ o = 1 ∨ o = 2 ∨ o = 3 ∨ o = 4 ∨ o = 5 ∨ o = 6 ∨ o = 7 by omega) with rfl | rfl | rfl | rfl | rfl | rfl | rfl | rfl
        · -- counted
          have e0 : efV V (.act 8 (2 * v) (V (2 * v)) (V (2 * v) + 1)) (2 * v) = V (2 * v) + 1 := if_pos rfl
          have e1 : efV V (.act 8 (2 * v) (V (2 * v)) (V (2 * v) + 1)) (2 * v + 1) = V (2 * v + 1) := if_neg (by omega)
          have a0 : actC (2 * v) (.act 8 (2 * v) (V (2 * v)) (V (2 * v) + 1)) = 1 := if_pos rfl
          have a1 : actC (2 * v + 1) (.act 8 (2 * v) (V (2 * v)) (V (2 * v) + 1)) = 0 := if_neg (by omega)
          show TOut _ _ _ _ _ _ _ (actC (2 * v) (.act 8 (2 * v) (V (2 * v)) (V (2 * v) + 1))) (actC (2 * v + 1) (.act 8 (2 * v) (V (2 * v)) (V (2 * v) + 1))) (efV V (.act 8 (2 * v) (V (2 * v)) (V (2 * v) + 1)) (2 * v)) (efV V (.act 8 (2 * v) (V (2 * v)) (V (2 * v) + 1)) (2 * v + 1)) (zT h p v ⟨r, V (2 * v), e, .pc k 1⟩) (ndT h p v (efV V (.act 8 (2 * v) (V (2 * v)) (V (2 * v) + 1)) (2 * v + 1)) ⟨r, V (2 * v), e, .pc k 1⟩) (pdT h p v ⟨r, V (2 * v), e, .pc k 1⟩) (slC (2 * v + 1) ss)
          rw [e0, e1, a0, a1, hz0, hz0, hp0, hp0, hn0, hn0]
          exact .same rfl (Nat.le_refl _) (by omega) (by show 0 + 2 + 2 * 0 + 2 * V (2 * v) + 3 * V (2 * v + 1) + _ ≤ 0 + 2 * 0 + 2 * (V (2 * v) + 1) + 3 * V (2 * v + 1) + _; omega)
        · -- the last one, or not
          show TOut _ _ _ _ _ _ _ (actC (2 * v) .no) (actC (2 * v + 1) .no) (efV V .no (2 * v)) (efV V .no (2 * v + 1)) (zT h p v ⟨r, x, e, if (x : Int) = sz v - 1 then nxL Q (k + 1) else .pc k 2⟩) (ndT h p v (efV V .no (2 * v + 1)) ⟨r, x, e, if (x : Int) = sz v - 1 then nxL Q (k + 1) else .pc k 2⟩) (pdT h p v ⟨r, x, e, if (x : Int) = sz v - 1 then nxL Q (k + 1) else .pc k 2⟩) (slC (2 * v + 1) (efS t ss .no))
          have hb : ndT h p v (V (2 * v + 1)) ⟨r, x, e, .pc k 1⟩ = 2 := hn0 _ _ _
          split
          · obtain ⟨n1, n2, n3⟩ := hnx (k + 1)
            exact idle (a' := ⟨r, x, e, nxL Q (k + 1)⟩) (.inl rfl) (by rw [n2, hz0]) (by rw [n1, n3]; exact Nat.zero_le _)
          · refine idle (a' := ⟨r, x, e, .pc k 2⟩) (.inl rfl) (by rw [hz0, hz0]) ?_
            rw [hb, hn0, hp0]
            show (if V (2 * v + 1) < r then 2 else 1) + 2 * 0 ≤ _
            split <;> omega
        · -- looks
          rw [show stPc Q V ⟨r, x, e, .pc k 2⟩ k 2 (.up (2 * v) (sz v) (2 * h - k)) = (⟨r, V (2 * v + 1), e, .pc k 3⟩, .act 6 (2 * v + 1) (V (2 * v + 1)) (V (2 * v + 1))) from rfl]
          have e0 : efV V (.act 6 (2 * v + 1) (V (2 * v + 1)) (V (2 * v + 1))) (2 * v) = V (2 * v) := if_neg (by omega)
          have e1 : efV V (.act 6 (2 * v + 1) (V (2 * v + 1)) (V (2 * v + 1))) (2 * v + 1) = V (2 * v + 1) := if_pos rfl
          have a0 : actC (2 * v) (.act 6 (2 * v + 1) (V (2 * v + 1)) (V (2 * v + 1))) = 0 := if_neg (by omega)
          have a1 : actC (2 * v + 1) (.act 6 (2 * v + 1) (V (2 * v + 1)) (V (2 * v + 1))) = 1 := if_pos rfl
          rw [e0, e1, a0, a1, hz0, hz0, hp0, hp0, hn0, hn0]
          refine .same rfl (Nat.le_refl _) (by omega) ?_
          show 1 + (if V (2 * v + 1) < r then 1 else 0) + 2 * 0 + 2 * V (2 * v) + 3 * V (2 * v + 1) + slC (2 * v + 1) ss ≤ (if V (2 * v + 1) < r then 2 else 1) + 2 * 0 + 2 * V (2 * v) + 3 * V (2 * v + 1) + slC (2 * v + 1) ss
          split <;> omega
        · rw [show stPc Q V ⟨r, x, e, .pc k 3⟩ k 3 (.up (2 * v) (sz v) (2 * h - k)) = (⟨r, x, e, if x < r then .pc k 5 else .pc k 4⟩, .no) from rfl]
          have hb : ndT h p v (V (2 * v + 1)) ⟨r, x, e, .pc k 3⟩ = if x < r then 1 else 0 := hn0 _ _ _
          split
          · rename_i hxr
            refine idle (a' := ⟨r, x, e, .pc k 5⟩) (.inl rfl) (by rw [hz0, hz0]) ?_
            rw [hb, hn0, hp0, hp0, if_pos hxr]
            exact Nat.le_refl _
          · rename_i hxr
            refine idle (a' := ⟨r, x, e, .pc k 4⟩) (.inl rfl) (by rw [hz0, hz0]) ?_
            rw [hb, hn0, hp0, hp0, if_neg hxr]
            exact Nat.le_refl _
        · rw [show stPc Q V ⟨r, x, e, .pc k 4⟩ k 4 (.up (2 * v) (sz v) (2 * h - k)) = (⟨r, x, e, .pc k 7⟩, .no) from rfl]
          refine idle (a' := ⟨r, x, e, .pc k 7⟩) (.inl rfl) (by rw [hz0, hz0]) ?_
          rw [hn0, hn0, hp0, hp0]
          exact Nat.le_refl _
        · -- sleeps, or not
          obtain ⟨m1, m2, m3⟩ := hmic k hk hpv rfl
          change x < r at m1
          change x ≤ V (2 * v + 1) at m2
          change r ≤ x + 1 at m3
          have hb : ndT h p v (V (2 * v + 1)) ⟨r, x, e, .pc k 5⟩ = 1 := hn0 _ _ _
          by_cases hv : V (2 * v + 1) = x
          · rw [show stPc Q V ⟨r, x, e, .pc k 5⟩ k 5 (.up (2 * v) (sz v) (2 * h - k)) = (⟨r, x, e, .pc k 6⟩, .slp (2 * v + 1)) from Prod.ext rfl (if_pos hv)]
            have hsl : slC (2 * v + 1) (efS t ss (.slp (2 * v + 1))) = slC (2 * v + 1) ss + 1 := by
              show (ss ++ [(⟨t, ((2 * v + 1 : Nat) : Int)⟩ : Slp)]).countP _ = _
              rw [List.countP_append, ← slC]
              congr 1
              exact List.countP_cons_of_pos (by simp)
            rw [hsl, hz0, hz0, hp0, hp0, hb, hn0]
            refine .same rfl (Nat.le_refl _) (by show 0 + V (2 * v) ≤ V (2 * v); omega) ?_
            show 0 + (if V (2 * v + 1) < r then 2 else 1) + 2 * 0 + 2 * V (2 * v) + 3 * V (2 * v + 1) + slC (2 * v + 1) ss ≤ 1 + 2 * 0 + 2 * V (2 * v) + 3 * V (2 * v + 1) + (slC (2 * v + 1) ss + 1)
            split <;> omega
          · rw [show stPc Q V ⟨r, x, e, .pc k 5⟩ k 5 (.up (2 * v) (sz v) (2 * h - k)) = (⟨r, x, e, .pc k 6⟩, .no) from Prod.ext rfl (if_neg hv)]
            refine idle (a' := ⟨r, x, e, .pc k 6⟩) (.inl rfl) (by rw [hz0, hz0]) ?_
            rw [hb, hn0, hp0, hp0]
            show (if V (2 * v + 1) < r then 2 else 1) + 2 * 0 ≤ 1 + 2 * 0
            rw [if_neg (by omega)]
            omega
        · rw [show stPc Q V ⟨r, x, e, .pc k 6⟩ k 6 (.up (2 * v) (sz v) (2 * h - k)) = (⟨r, x, e, .pc k 2⟩, .no) from rfl]
          refine idle (a' := ⟨r, x, e, .pc k 2⟩) (.inl rfl) (by rw [hz0, hz0]) ?_
          rw [hn0, hn0, hp0, hp0]
          exact Nat.le_refl _
        · rw [show stPc Q V ⟨r, x, e, .pc k 7⟩ k 7 (.up (2 * v) (sz v) (2 * h - k)) = (⟨r, x, e, nxL Q (2 * h - k)⟩, .no) from rfl]
          obtain ⟨n1, n2, n3⟩ := hnx (2 * h - k)
          exact idle (a' := ⟨r, x, e, nxL Q (2 * h - k)⟩) (.inl rfl) (by rw [n2, hz0]) (by rw [n1, n3]; exact Nat.zero_le _)
      · -- elsewhere
        have hn0 : ∀ x' g o', ndT h p v g ⟨r, x', e, .pc k o'⟩ = 0 := fun x' g o' => if_neg fun hh => hpv hh.2
        have far : ∀ {a' : AT} {ef : Ef}, (∃ o1 d y1 y2, ef = .act o1 d y1 y2 ∧ (d = 2 * p k ∨ d = 2 * p k + 1)) ∨ ef = .no ∨ (ef = .slp (2 * p k + 1)) → zT h p v a' = 0 → ndT h p v (V (2 * v + 1)) a' = 0 → pdT h p v a' = 0 → TOut (sz v) (V (2 * v)) (V (2 * v + 1)) (zT h p v ⟨r, x, e, .pc k o⟩) (ndT h p v (V (2 * v + 1)) ⟨r, x, e, .pc k o⟩) (pdT h p v ⟨r, x, e, .pc k o⟩) (slC (2 * v + 1) ss) (actC (2 * v) ef) (actC (2 * v + 1) ef)
            (efV V ef (2 * v)) (efV V ef (2 * v + 1)) (zT h p v a') (ndT h p v (efV V ef (2 * v + 1)) a') (pdT h p v a') (slC (2 * v + 1) (efS t ss ef)) := by
          intro a' ef he h1 h2 h3
          have hne1 : 2 * p k ≠ 2 * v := by omega
          rcases he with ⟨o1, d, y1, y2, rfl, hd⟩ | rfl | rfl
          · have e0 : efV V (.act o1 d y1 y2) (2 * v) = V (2 * v) := if_neg (by omega)
            have e1 : efV V (.act o1 d y1 y2) (2 * v + 1) = V (2 * v + 1) := if_neg (by omega)
            have a0 : actC (2 * v) (.act o1 d y1 y2) = 0 := if_neg (by omega)
            have a1 : actC (2 * v + 1) (.act o1 d y1 y2) = 0 := if_neg (by omega)
            rw [e0, e1, a0, a1, h1, h2, h3, hz0, hn0, hp0]
            exact .same rfl (Nat.le_refl _) (by omega) (by show 0 + 0 + 2 * 0 + 2 * V (2 * v) + 3 * V (2 * v + 1) + slC (2 * v + 1) ss ≤ 0 + 2 * 0 + 2 * V (2 * v) + 3 * V (2 * v + 1) + slC (2 * v + 1) ss; omega)
          · exact idle (.inl rfl) (by rw [h1, hz0]) (by rw [h2, h3]; exact Nat.zero_le _)
          · have hsl : slC (2 * v + 1) (efS t ss (.slp (2 * p k + 1))) = slC (2 * v + 1) ss := by
              show (ss ++ [(⟨t, ((2 * p k + 1 : Nat) : Int)⟩ : Slp)]).countP _ = _
              rw [List.countP_append, ← slC, List.countP_cons_of_neg (by simp; omega)]
              rfl
            rw [hsl, h1, h3, hz0, hn0, hp0]
            show TOut _ _ _ _ _ _ _ 0 0 (V (2 * v)) (V (2 * v + 1)) _ (ndT h p v (V (2 * v + 1)) a') _ _
            rw [h2]
            exact .same rfl (Nat.le_refl _) (by omega) (by omega)
        have ho8 : o < 8 := ho
        rcases (show o = 0 ∨ o = 1 ∨ o = 2 ∨ o = 3 ∨ o = 4 ∨ o = 5 ∨ o = 6 ∨ o = 7 by omega) with rfl | rfl | rfl | rfl | rfl | rfl | rfl | rfl
        · exact far (a' := ⟨r, V (2 * p k), e, .pc k 1⟩) (.inl ⟨_, _, _, _, rfl, .inl rfl⟩) (hz0 _ _) (hn0 _ _ _) (hp0 _ _)
        · rw [show stPc Q V ⟨r, x, e, .pc k 1⟩ k 1 (.up (2 * p k) (sz (p k)) (2 * h - k)) = (⟨r, x, e, if (x : Int) = sz (p k) - 1 then nxL Q (k + 1) else .pc k 2⟩, .no) from rfl]
          split
          · exact far (a' := ⟨r, x, e, nxL Q (k + 1)⟩) (.inr (.inl rfl)) (hnx _).2.1 (hnx _).1 (hnx _).2.2
          · exact far (a' := ⟨r, x, e, .pc k 2⟩) (.inr (.inl rfl)) (hz0 _ _) (hn0 _ _ _) (hp0 _ _)
        · exact far (a' := ⟨r, V (2 * p k + 1), e, .pc k 3⟩) (.inl ⟨_, _, _, _, rfl, .inr rfl⟩) (hz0 _ _) (hn0 _ _ _) (hp0 _ _)
        · rw [show stPc Q V ⟨r, x, e, .pc k 3⟩ k 3 (.up (2 * p k) (sz (p k)) (2 * h - k)) = (⟨r, x, e, if x < r then .pc k 5 else .pc k 4⟩, .no) from rfl]
          split
          · exact far (a' := ⟨r, x, e, .pc k 5⟩) (.inr (.inl rfl)) (hz0 _ _) (hn0 _ _ _) (hp0 _ _)
          · exact far (a' := ⟨r, x, e, .pc k 4⟩) (.inr (.inl rfl)) (hz0 _ _) (hn0 _ _ _) (hp0 _ _)
        · exact far (a' := ⟨r, x, e, .pc k 7⟩) (.inr (.inl rfl)) (hz0 _ _) (hn0 _ _ _) (hp0 _ _)
        · by_cases hv : V (2 * p k + 1) = x
          · rw [show stPc Q V ⟨r, x, e, .pc k 5⟩ k 5 (.up (2 * p k) (sz (p k)) (2 * h - k)) = (⟨r, x, e, .pc k 6⟩, .slp (2 * p k + 1)) from Prod.ext rfl (if_pos hv)]
            exact far (a' := ⟨r, x, e, .pc k 6⟩) (.inr (.inr rfl)) (hz0 _ _) (hn0 _ _ _) (hp0 _ _)
          · rw [show stPc Q V ⟨r, x, e, .pc k 5⟩ k 5 (.up (2 * p k) (sz (p k)) (2 * h - k)) = (⟨r, x, e, .pc k 6⟩, .no) from Prod.ext rfl (if_neg hv)]
            exact far (a' := ⟨r, x, e, .pc k 6⟩) (.inr (.inl rfl)) (hz0 _ _) (hn0 _ _ _) (hp0 _ _)
        · exact far (a' := ⟨r, x, e, .pc k 2⟩) (.inr (.inl rfl)) (hz0 _ _) (hn0 _ _ _) (hp0 _ _)
        · exact far (a' := ⟨r, x, e, nxL Q (2 * h - k)⟩) (.inr (.inl rfl)) (hnx _).2.1 (hnx _).1 (hnx _).2.2
    · -- on the way down
      obtain ⟨j, hj, rfl⟩ : ∃ j, j < h ∧ k = 2 * h - 1 - j := ⟨2 * h - 1 - k, by omega, by omega⟩
      have hyd := hdn j hj
      rw [hyd] at hy
      obtain rfl := Option.some.inj hy
      have hji : 2 * h - 1 - (2 * h - 1 - j) = j := by omega
      have hhk : h ≤ 2 * h - 1 - j := by omega
      have hn0 : ∀ x' g o', ndT h p v g ⟨r, x', e, .pc (2 * h - 1 - j) o'⟩ = 0 := fun x' g o' => if_neg fun hh => hk hh.1
      have hz2 : ∀ x', zT h p v ⟨r, x', e, .pc (2 * h - 1 - j) 2⟩ = if p j = v then 1 else 0 := fun x' => by
        show (if h ≤ 2 * h - 1 - j ∧ p (2 * h - 1 - (2 * h - 1 - j)) = v then 1 else 0) = _
        rw [hji]
        by_cases hpv : p j = v
        · rw [if_pos ⟨hhk, hpv⟩, if_pos hpv]
        · rw [if_neg fun hh => hpv hh.2, if_neg hpv]
      have hp3 : ∀ x', pdT h p v ⟨r, x', e, .pc (2 * h - 1 - j) 3⟩ = if p j = v then 1 else 0 := fun x' => by
        show (if h ≤ 2 * h - 1 - j ∧ p (2 * h - 1 - (2 * h - 1 - j)) = v then 1 else 0) = _
        rw [hji]
        by_cases hpv : p j = v
        · rw [if_pos ⟨hhk, hpv⟩, if_pos hpv]
        · rw [if_neg fun hh => hpv hh.2, if_neg hpv]
      rw [stA_pc hyd]
      have ho4 : o < 4 := ho
      rcases (show o = 0 ∨ o = 1 ∨ o = 2 ∨ o = 3 by omega) with rfl | rfl | rfl | rfl
      · exact idle (a' := ⟨r, x, e, .pc (2 * h - 1 - j) 1⟩) (.inl rfl) rfl (by rw [hn0, hn0]; exact Nat.le_refl _)
      · rw [show stPc Q V ⟨r, x, e, .pc (2 * h - 1 - j) 1⟩ (2 * h - 1 - j) 1 (.dn (2 * p j) (sz (p j))) = (⟨r, x, e, .pc (2 * h - 1 - j) 2⟩, .act 7 (2 * p j) (V (2 * p j)) 0) from rfl]
        rw [hz2, hn0, hn0]
        by_cases hpv : p j = v
        · have e0 : efV V (.act 7 (2 * p j) (V (2 * p j)) 0) (2 * v) = 0 := if_pos (by omega)
          have e1 : efV V (.act 7 (2 * p j) (V (2 * p j)) 0) (2 * v + 1) = V (2 * v + 1) := if_neg (by omega)
          have a0 : actC (2 * v) (.act 7 (2 * p j) (V (2 * p j)) 0) = 1 := if_pos (by omega)
          have a1 : actC (2 * v + 1) (.act 7 (2 * p j) (V (2 * p j)) 0) = 0 := if_neg (by omega)
          rw [e0, e1, a0, a1, if_pos hpv]
          exact .reset rfl rfl rfl (hfull j hj hpv rfl) rfl rfl rfl rfl rfl
        · have e0 : efV V (.act 7 (2 * p j) (V (2 * p j)) 0) (2 * v) = V (2 * v) := if_neg (by omega)
          have e1 : efV V (.act 7 (2 * p j) (V (2 * p j)) 0) (2 * v + 1) = V (2 * v + 1) := if_neg (by omega)
          have a0 : actC (2 * v) (.act 7 (2 * p j) (V (2 * p j)) 0) = 0 := if_neg (by omega)
          have a1 : actC (2 * v + 1) (.act 7 (2 * p j) (V (2 * p j)) 0) = 0 := if_neg (by omega)
          rw [e0, e1, a0, a1, if_neg hpv]
          exact .same rfl (Nat.le_refl _) (by omega) (by show 0 + 0 + 2 * 0 + 2 * V (2 * v) + 3 * V (2 * v + 1) + slC (2 * v + 1) ss ≤ 0 + 2 * 0 + 2 * V (2 * v) + 3 * V (2 * v + 1) + slC (2 * v + 1) ss; omega)
      · rw [show stPc Q V ⟨r, x, e, .pc (2 * h - 1 - j) 2⟩ (2 * h - 1 - j) 2 (.dn (2 * p j) (sz (p j))) = (⟨r, x, e, .pc (2 * h - 1 - j) 3⟩, .act 7 (2 * p j + 1) (V (2 * p j + 1)) r) from rfl]
        rw [hz2, hp3, hn0, hn0]
        by_cases hpv : p j = v
        · have hg := hgate j hj hpv rfl
          change V (2 * v + 1) + 1 = r at hg
          have e0 : efV V (.act 7 (2 * p j + 1) (V (2 * p j + 1)) r) (2 * v) = V (2 * v) := if_neg (by omega)
          have e1 : efV V (.act 7 (2 * p j + 1) (V (2 * p j + 1)) r) (2 * v + 1) = r := if_pos (by omega)
          have a0 : actC (2 * v) (.act 7 (2 * p j + 1) (V (2 * p j + 1)) r) = 0 := if_neg (by omega)
          have a1 : actC (2 * v + 1) (.act 7 (2 * p j + 1) (V (2 * p j + 1)) r) = 1 := if_pos (by omega)
          rw [e0, e1, a0, a1, if_pos hpv]
          exact .same (by show r + 0 = V (2 * v + 1) + 1; omega) (by omega) (by omega) (by show 1 + 0 + 2 * 1 + 2 * V (2 * v) + 3 * V (2 * v + 1) + slC (2 * v + 1) ss ≤ 0 + 2 * 0 + 2 * V (2 * v) + 3 * r + slC (2 * v + 1) ss; omega)
        · have e0 : efV V (.act 7 (2 * p j + 1) (V (2 * p j + 1)) r) (2 * v) = V (2 * v) := if_neg (by omega)
          have e1 : efV V (.act 7 (2 * p j + 1) (V (2 * p j + 1)) r) (2 * v + 1) = V (2 * v + 1) := if_neg (by omega)
          have a0 : actC (2 * v) (.act 7 (2 * p j + 1) (V (2 * p j + 1)) r) = 0 := if_neg (by omega)
          have a1 : actC (2 * v + 1) (.act 7 (2 * p j + 1) (V (2 * p j + 1)) r) = 0 := if_neg (by omega)
          rw [e0, e1, a0, a1, if_neg hpv]
          exact .same rfl (Nat.le_refl _) (by omega) (by show 0 + 0 + 2 * 0 + 2 * V (2 * v) + 3 * V (2 * v + 1) + slC (2 * v + 1) ss ≤ 0 + 2 * 0 + 2 * V (2 * v) + 3 * V (2 * v + 1) + slC (2 * v + 1) ss; omega)
      · rw [show stPc Q V ⟨r, x, e, .pc (2 * h - 1 - j) 3⟩ (2 * h - 1 - j) 3 (.dn (2 * p j) (sz (p j))) = (⟨r, x, e, nxL Q (2 * h - 1 - j + 1)⟩, .wk (2 * p j + 1) (sz (p j))) from rfl]
        obtain ⟨n1, n2, n3⟩ := hnx (2 * h - 1 - j + 1)
        have hw := slC_wake (c := 2 * v + 1) (d := 2 * p j + 1) (N := sz (p j)) ss 0
        rw [hp3]
        show TOut _ _ _ _ _ _ _ 0 0 (V (2 * v)) (V (2 * v + 1)) _ (ndT h p v (V (2 * v + 1)) _) _ (slC (2 * v + 1) (wakeL ((2 * p j + 1 : Nat) : Int) (sz (p j) : Nat) 0 ss).2)
        rw [n1, n2, n3, hn0]
        by_cases hpv : p j = v
        · rw [if_pos (by omega)] at hw
          rw [if_pos hpv]
          have : sz (p j) = sz v := by rw [hpv]
          exact .same rfl (Nat.le_refl _) (by omega) (by omega)
        · rw [if_neg (by omega)] at hw
          rw [if_neg hpv]
          exact .same rfl (Nat.le_refl _) (by omega) (by omega)

end
end Go.Mac
end

/- Trees, and all kinds where at most two meet: how many acts are done to a cell in the end. -/
section
open Go Go.Proofs Go.Mac
set_option maxRecDepth 100000
namespace Go.Mac

section
variable {n N R h : Nat} {P : Nat → List Pc} {par sz : Nat → Nat} {p : Nat → Nat → Nat} {lev : Nat → Nat}

def zN (n h : Nat) (p : Nat → Nat → Nat) (v : Nat) (A : Nat → AT) : Nat := rsum n fun t => zT h (p t) v (A t)
def ndN (n h : Nat) (p : Nat → Nat → Nat) (v g : Nat) (A : Nat → AT) : Nat := rsum n fun t => ndT h (p t) v g (A t)
def pdN (n h : Nat) (p : Nat → Nat → Nat) (v : Nat) (A : Nat → AT) : Nat := rsum n fun t => pdT h (p t) v (A t)

/-- Acts at the cells of a tree. -/
def TrJ (n N h : Nat) (sz : Nat → Nat) (p : Nat → Nat → Nat) (A : Nat → AT) (V : Nat → Nat) (ss : List Slp) (al : List ActZ) : Prop :=
  ∀ v, v < N → cntC (2 * v) al ≤ V (2 * v) + (sz v + 1) * (V (2 * v + 1) + zN n h p v A) ∧
    cntC (2 * v + 1) al + ndN n h p v (V (2 * v + 1)) A + 2 * pdN n h p v A ≤ 2 * V (2 * v) + 2 * (sz v * (V (2 * v + 1) + zN n h p v A)) + 3 * V (2 * v + 1) + slC (2 * v + 1) ss

theorem rsum_onl {g h : Nat → Nat} {t : Nat} (ht : t < n) (hl : ∀ s, s < n → s ≠ t → g s = h s) : rsum n g + h t = rsum n h + g t :=
  Nat.le_antisymm (rsum_upd ht fun s hs hne => Nat.le_of_eq (hl s hs hne)) (rsum_upd ht fun s hs hne => Nat.le_of_eq (hl s hs hne).symm)

theorem tr_kept (hT : TreeOk n N h P par sz p lev) (hS : ∀ v, sz v ≤ 2) : KeptS n R P (fun A V ss => ∃ b, TI n N R h P par sz p b A V ss) (TrJ n N h sz p) := by
  intro A V ss al k0 t hI hJ ht hlo hd hno v hv
  obtain ⟨b, hI⟩ := hI
  obtain ⟨j1, j2⟩ := hJ v hv
  have hinj : ∀ i j, i < h → j < h → p t i = p t j → i = j := fun i j hi hj e => by
    have h1 := (hT.node t ht i hi).2
    have h2 := (hT.node t ht j hj).2
    rw [e] at h1
    omega
  have hiat : ∀ (o j u : Nat), j < h → o ≤ 2 → (A u).l = .pc (2 * h - 1 - j) o → j < hiA h (fun k => sz (p u k)) (A u) := fun o j u hj ho hl => by
    unfold hiA
    rw [hl]
    dsimp only
    rw [if_neg (by omega), if_pos ho]
    omega
  have key := tree_own (R := R) (V := V) (a := A t) (p := p t) (sz := sz) (ss := ss) (t := t) (v := v) (hT.len t ht) (hT.up t ht) (hT.dn t ht) hinj (hS v) hlo (hI.reg t ht)
    (fun i hi hp hl => by
      have := (hI.mic t ht i 3 hi hl).1
      rwa [hp] at this)
    (fun j hj hp hl => by
      have := hI.e2 t ht j (hiat 2 j t hj (Nat.le_refl _) hl)
      rwa [hp] at this)
    (fun j hj hp hl => by
      have hat := hiat 1 j t hj (by decide) hl
      have h1 := hI.cnt v hv fun u hu i hi hpu hlu => by
        have hau := hiat 2 i u hi (Nat.le_refl _) hlu
        have : t = u := hI.one t ht u hu j i hat hau (by rw [hp, hpu])
        subst this
        rw [hl] at hlu
        injection hlu with _ hlu
        cases hlu
      have h2 : rsum (n + N) (fun x => if par x = v then b x else 0) ≤ rsum (n + N) (fun x => if par x = v then V (2 * v + 1) + 1 else 0) := rsum_le fun x hx => by
        by_cases hpx : par x = v
        · rw [if_pos hpx, if_pos hpx]
          have := (hI.low x hx (by rw [hpx]; exact hv)).2
          rwa [hpx] at this
        · rw [if_neg hpx, if_neg hpx]
          exact Nat.le_refl _
      rw [rsum_if (fun _ => V (2 * v + 1) + 1) par v (n + N) (V (2 * v + 1) + 1) fun x hx hp => rfl, ← (hT.size v hv).1, Nat.mul_succ] at h2
      omega)
  have c0 := cnt_act (2 * v) (k0 + 1) t al (stA R (P t) V (A t)).2
  have c1 := cnt_act (2 * v + 1) (k0 + 1) t al (stA R (P t) V (A t)).2
  rw [c0, c1]
  obtain ⟨e, he⟩ : ∃ e, (stA R (P t) V (A t)).2 = e := ⟨_, rfl⟩
  obtain ⟨a', ha'⟩ : ∃ a', (stA R (P t) V (A t)).1 = a' := ⟨_, rfl⟩
  rw [he, ha'] at key
  rw [he, ha']
  have sz' : zN n h p v (updA A t a') + zT h (p t) v (A t) = zN n h p v A + zT h (p t) v a' := by
    have := rsum_onl (n := n) (g := fun s => zT h (p s) v (updA A t a' s)) (h := fun s => zT h (p s) v (A s)) ht fun s _ hne => by rw [updA_ne _ _ hne]
    rwa [updA_same] at this
  have sp' : pdN n h p v (updA A t a') + pdT h (p t) v (A t) = pdN n h p v A + pdT h (p t) v a' := by
    have := rsum_onl (n := n) (g := fun s => pdT h (p s) v (updA A t a' s)) (h := fun s => pdT h (p s) v (A s)) ht fun s _ hne => by rw [updA_ne _ _ hne]
    rwa [updA_same] at this
  have sn' : ∀ g', V (2 * v + 1) ≤ g' → ndN n h p v g' (updA A t a') + ndT h (p t) v (V (2 * v + 1)) (A t) ≤ ndN n h p v (V (2 * v + 1)) A + ndT h (p t) v g' a' := fun g' hg => by
    have := rsum_upd (n := n) (g := fun s => ndT h (p s) v g' (updA A t a' s)) (h := fun s => ndT h (p s) v (V (2 * v + 1)) (A s)) ht fun s _ hne => by
      rw [updA_ne _ _ hne]
      exact ndT_mono hg
    rwa [updA_same] at this
  rcases key with ⟨hy, hG, hc, hg⟩ | ⟨hz, hG, hC, hCS, h0, h1, hn, hp, hs⟩
  · have hW : efV V e (2 * v + 1) + zN n h p v (updA A t a') = V (2 * v + 1) + zN n h p v A := by omega
    have := sn' _ hG
    rw [hW]
    constructor
    · omega
    · omega
  · have hW : efV V e (2 * v + 1) + zN n h p v (updA A t a') = V (2 * v + 1) + zN n h p v A + 1 := by omega
    have := sn' (efV V e (2 * v + 1)) (by omega)
    rw [hW, Nat.mul_succ, Nat.mul_succ, hC, h0, h1, hs]
    rw [hG] at this hn ⊢
    constructor
    · omega
    · omega

theorem tr_begin (n N h : Nat) (sz : Nat → Nat) (p : Nat → Nat → Nat) : TrJ n N h sz p (fun _ => ⟨0, 0, 0, .p0⟩) (fun _ => 0) [] [] := fun v _ => by
  have e1 : ndN n h p v 0 (fun _ => ⟨0, 0, 0, .p0⟩) = 0 := (rsum_same _ _).trans (by simp)
  have e2 : pdN n h p v (fun _ => ⟨0, 0, 0, .p0⟩) = 0 := (rsum_same _ _).trans (by simp)
  constructor
  · exact Nat.zero_le _
  · show 0 + ndN n h p v 0 (fun _ => ⟨0, 0, 0, .p0⟩) + 2 * pdN n h p v (fun _ => ⟨0, 0, 0, .p0⟩) ≤ _
    rw [e1, e2]
    exact Nat.zero_le _

end

theorem sizeV_le (n v : Nat) : sizeV n v ≤ 2 := Nat.min_le_left _ _

/-- Kinds where at most two meet. -/
def thinK (k : Nat) : Prop := k = 2 ∨ 4 ≤ k ∧ k ≤ 6

def KJ (k n : Nat) (A : Nat → AT) (V : Nat → Nat) (ss : List Slp) (al : List ActZ) : Prop :=
  CI (kindC k n) al ∧ if k = 2 then TrJ n (firstN n (hgtN n)) (hgtN n) (sizeV n) (nodeN n) A V ss al else ThJ (fun c => rdW c (kindL k n) 0) (fun c => wrL c (kindL k n) 0) A V ss al

theorem kj_kept {k n R : Nat} (hk : thinK k) (hn : 1 ≤ n ∧ n ≤ 16) : KeptS n R (PP k n) (kindI k n R) (KJ k n) := by
  have hk6 : 1 ≤ k ∧ k ≤ 6 := by rcases hk with h | h <;> omega
  intro A V ss al k0 t hI hJ ht hlo hd hno
  refine ⟨kept_cells hk6 hn A V ss al k0 t hI hJ.1 ht hlo hd hno ((kind_bar R hk6 hn).go A V ss t hI ht hlo hd hno).1, ?_⟩
  have hJ2 := hJ.2
  by_cases h2 : k = 2
  · subst h2
    rw [if_pos rfl] at hJ2 ⊢
    exact tr_kept (tree_two hn) (sizeV_le n) A V ss al k0 t hI hJ2 ht hlo hd hno
  · rw [if_neg h2] at hJ2 ⊢
    rw [kindI, if_neg (by rcases hk with h | h <;> omega), if_neg h2] at hI
    have hk4 : 4 ≤ k ∧ k ≤ 6 := by rcases hk with h | h <;> omega
    exact thin_kept (kind_netOk (by omega) hn) (rd_ok hk4 hn) A V ss al k0 t hI hJ2 ht hlo hd hno

theorem kj_begin {k n : Nat} : KJ k n (fun _ => ⟨0, 0, 0, .p0⟩) (fun _ => 0) [] [] := by
  unfold KJ
  refine ⟨fun (a : ActZ) (ha : a ∈ []) => (by cases ha), ?_⟩
  split
  · exact tr_begin _ _ _ _ _
  · intro c
    have e1 : needC (fun c => rdW c (kindL k n) 0) (fun _ => ⟨0, 0, 0, .p0⟩) (fun _ => 0) [] c = 0 := by
      unfold needC
      split <;> rfl
    have e2 : pendC (fun c => wrL c (kindL k n) 0) (fun _ => ⟨0, 0, 0, .p0⟩) c = 0 := by
      unfold pendC
      split <;> rfl
    rw [e1, e2]
    exact Nat.zero_le _

/-- In the end. -/
theorem kj_ended {k n R : Nat} {A : Nat → AT} {V : Nat → Nat} {ss : List Slp} {al : List ActZ} (hk : thinK k) (hn : 1 ≤ n ∧ n ≤ 16) (hI : kindI k n R A V ss) (hJ : KJ k n A V ss al) (he : ∀ t, t < n → (A t).l = .ended) : ∀ c : Nat, cntC c al ≤ 8 * R := by
  have hreg := fun t ht => (kind_bar R (show 1 ≤ k ∧ k ≤ 6 by rcases hk with h | h <;> omega) hn).reg A V ss hI t ht
  intro c
  have hJ2 := hJ.2
  by_cases h2 : k = 2
  · subst h2
    rw [if_pos rfl] at hJ2
    obtain ⟨b, hI⟩ : ∃ b, TI n (firstN n (hgtN n)) R (hgtN n) (PP 2 n) (parV n) (sizeV n) (nodeN n) b A V ss := hI
    by_cases hc : c < 2 * firstN n (hgtN n)
    · have hv : c / 2 < firstN n (hgtN n) := by omega
      obtain ⟨j1, j2⟩ := hJ2 (c / 2) hv
      obtain ⟨e1, e2⟩ := tree_ended (tree_two hn) hI he (c / 2) hv
      have hz : zN n (hgtN n) (nodeN n) (c / 2) A = 0 := by
        rw [zN, rsum_cong (h := fun _ => 0) fun t ht => ?_, rsum_same, Nat.mul_zero]
        rw [zT, he t ht]
      have hss : ss = [] := by
        cases ss with
        | nil => rfl
        | cons s ss =>
          obtain ⟨t, i, ht, _, _, hl, _⟩ := hI.slp s (List.mem_cons_self ..)
          rw [he t ht] at hl
          cases hl
      subst hss
      have hsl : slC (2 * (c / 2) + 1) [] = 0 := rfl
      have hR0 : R + 0 = R := Nat.add_zero R
      rw [e1, e2, hz, hR0] at j1
      rw [e1, e2, hz, hR0] at j2
      rw [hsl] at j2
      have hs := sizeV_le n (c / 2)
      have m1 : (sizeV n (c / 2) + 1) * R ≤ 3 * R := Nat.mul_le_mul_right _ (by omega)
      have m2 : sizeV n (c / 2) * R ≤ 2 * R := Nat.mul_le_mul_right _ hs
      rcases (show c = 2 * (c / 2) ∨ c = 2 * (c / 2) + 1 by omega) with h | h <;> rw [h]
      · omega
      · omega
    · have : cntC c al = 0 := by
        rw [cntC, List.countP_eq_zero]
        intro a ha
        have h1 := (hJ.1 a ha).2
        have h3 : ((kindC 2 n : Nat) : Int) = ((2 * firstN n (hgtN n) : Nat) : Int) := rfl
        simp
        omega
      omega
  · rw [if_neg h2] at hJ2
    have hI2 := hI
    rw [kindI, if_neg (by rcases hk with h | h <;> omega), if_neg h2] at hI2
    have hj := hJ2 c
    have hV := net_ended hI2 he c
    have hV2 : V c ≤ R := by rw [hV]; split <;> omega
    have ha : atC (fun c => rdW c (kindL k n) 0) A c ≤ R := by
      unfold atC
      split
      · rename_i u q hr
        have hk4 : 4 ≤ k ∧ k ≤ 6 := by rcases hk with h | h <;> omega
        have hu := ((rd_ok hk4 hn).rd c u q hr).1
        have hru := hreg u hu
        rw [RegOk, he u hu] at hru
        rw [atg, he u hu]
        show (A u).r - 1 ≤ R
        have := hru.1
        omega
      · exact Nat.zero_le _
    omega

/-- Nobody is woken for nothing. -/
theorem kj_moves {k n nc R b : Nat} (hk : thinK k) (hn : 1 ≤ n ∧ n ≤ 16) : ∀ (l : List MoveZ) {m : MZ}, (∀ x ∈ l, x.pk = false) → (∃ A V, DI n nc R (PP k n) (kindI k n R) (kindF k n R) b A V m ∧ KJ k n A V m.ss m.al) → ∃ A V, DI n nc R (PP k n) (kindI k n R) (kindF k n R) b A V (movesZ m l) ∧ KJ k n A V (movesZ m l).ss (movesZ m l).al
  | [], _, _, h => h
  | x :: l, m, hl, ⟨A, V, h, j⟩ => by
    refine kj_moves hk hn l (m := moveZ m x) (fun y hy => hl y (List.mem_cons_of_mem _ hy)) ?_
    rw [moveZ, if_neg (by rw [hl x (List.mem_cons_self ..)]; decide)]
    exact h.stepS (kind_bar R (by rcases hk with h | h <;> omega) hn) (kj_kept hk hn) j x.th

/-- ALL CELLS: at most eight acts a round, and all acts are done to cells that there are. -/
theorem thin_law {k n R : Nat} (hk : thinK k) (hn : 1 ≤ n ∧ n ≤ 16) (hR : R ≤ 6) (l : List MoveZ) (hl : ∀ x ∈ l, x.pk = false) : (∀ c : Nat, cntC c (finish (movesZ (danceM k n R) l)).al ≤ 8 * R) ∧ CI (kindC k n) (finish (movesZ (danceM k n R) l)).al := by
  have hk6 : 1 ≤ k ∧ k ≤ 6 := by rcases hk with h | h <;> omega
  obtain ⟨A, V, h, j⟩ := kj_moves (nc := kindC k n) (b := R * costK k n + 4 * n) hk hn l hl ⟨_, _, dance_begin hk6 hn (by omega), kj_begin⟩
  obtain ⟨A', V', h', j', he⟩ := h.finishS (kind_bar R hk6 hn) (kj_kept hk hn) j (by
    have := (cost_le hk6 hn).2
    have : R * costK k n ≤ 6 * costK k n := Nat.mul_le_mul_right _ hR
    omega)
  exact ⟨kj_ended hk hn h'.inv j' he, j'.1⟩

end Go.Mac
end
