/- One thread alone that asks a phaser: the calls, one behind the other. -/
import Derived.Test.YtlimhldkkbaohaaDoorQAlZ
import Derived.Test.YtlimhldkkbaohaaDoorQGcM
open Go Go.Proofs Go.Mac
set_option maxRecDepth 100000
namespace Go.Mac

theorem ph_watch {p : Ph} (hp : p.right = true) {n : Int} (hn : 0 ≤ n ∧ n < 2147483648) : phDo p 10 n = some (p, awN p n) := by
  rw [phDo, if_neg (by simp [hp, gFitB]; omega), awN]
  by_cases ho : p.o = true
  · rw [if_pos ho, if_pos ho]
  · rw [if_neg ho, if_neg ho, if_neg (by decide), if_pos rfl]
    split <;> rfl

theorem ph_some {p : Ph} (hp : p.right = true) {w n : Int} (hf : gFitB w n = true) (h9 : w ≠ 9) : ∃ q a, phDo p w n = some (q, a) ∧ q.right = true ∧ -4 ≤ a ∧ a < 2147483648 := by
  have hb := pkRightB_iff.1 hp
  have go : ∀ {x : Option (Ph × Int)} (q : Ph) (a : Int), x = some (q, a) → (0 ≤ q.ph ∧ q.ph < 2147483648 ∧ 0 ≤ q.pa ∧ q.pa ≤ 65535 ∧ 0 ≤ q.wa ∧ q.wa ≤ q.pa) → -4 ≤ a ∧ a < 2147483648 → ∃ q a, x = some (q, a) ∧ q.right = true ∧ -4 ≤ a ∧ a < 2147483648 := fun q a h1 h2 h3 => ⟨q, a, h1, pkRightB_iff.2 h2, h3⟩
  rw [phDo, if_neg (by simp [hp, hf, h9])]
  by_cases ho : p.o = true
  · rw [if_pos ho]
    exact go _ _ rfl hb (by omega)
  rw [if_neg ho]
  by_cases h6 : w = 6
  · rw [if_pos h6]
    have hn : 1 ≤ n ∧ n ≤ 65535 := by rw [gFitB, if_pos h6] at hf; exact of_decide_eq_true hf
    by_cases h : p.pa + n > 65535
    · rw [if_pos h]; exact go _ _ rfl hb (by omega)
    · rw [if_neg h]; exact go _ _ rfl (by dsimp only; omega) (by omega)
  rw [if_neg h6]
  by_cases h10 : w = 10
  · rw [if_pos h10]
    by_cases h : p.ph = n
    · rw [if_pos h]; exact go _ _ rfl hb (by omega)
    · rw [if_neg h]; exact go _ _ rfl hb (by omega)
  rw [if_neg h10]
  by_cases h11 : w = 11
  · rw [if_pos h11]; exact go _ _ rfl hb (by omega)
  rw [if_neg h11]
  by_cases h0 : p.wa = 0
  · rw [if_pos h0]; exact go _ _ rfl hb (by omega)
  rw [if_neg h0]
  by_cases h1 : p.wa - 1 > 0
  · rw [if_pos h1]; exact go _ _ rfl (by dsimp only; split <;> omega) (by omega)
  rw [if_neg h1]
  by_cases h2 : (if w = 8 then p.pa - 1 else p.pa) = 0
  · rw [if_pos h2]; exact go _ _ rfl (by dsimp only; rw [h2]; omega) (by omega)
  · rw [if_neg h2]; exact go _ _ rfl (by dsimp only; split <;> omega) (by omega)

/-- What comes of a call of one who is alone. -/
def phAsk (p : Ph) (c : CallZ) : Ph × Int :=
  let a := (phDo p (if c.w = 9 then 7 else c.w) c.n).getD (p, -9)
  if c.w = 9 ∧ 0 ≤ a.2 then (a.1, awN a.1 a.2) else a

/-- What one who is alone is told, and whether it waits in the end. -/
def alone : Ph → List CallZ → List Int × Bool
  | _, [] => ([], false)
  | p, c :: cs => if (phAsk p c).2 = -4 then ([], true) else ((phAsk p c).2 :: (alone (phAsk p c).1 cs).1, (alone (phAsk p c).1 cs).2)

section
variable {l : List CallZ} {j : Nat} {c : CallZ}

set_option maxHeartbeats 2000000 in
theorem al_reg (hj : l[j]? = some c) (hc : c.w = 6 ∧ 1 ≤ c.n ∧ c.n ≤ 65535) {p : Ph} (hp : p.right = true) {q : Ph} {n : Int} (hq : phDo p c.w c.n = some (q, n)) (r1 r2 r3 r4 r5 : Int) :
    AlEnd l j 60 (gz j 0 r1 r2 r3 r4 r5) p.w q.w n := by
  obtain ⟨hb, hpw, b63, b0, b32, b16⟩ := Ph.bits hp
  obtain ⟨w, m⟩ := c
  dsimp only at hc hq
  obtain ⟨rfl, hm⟩ := hc
  have st : ∀ {o o' n : Nat} {r1 r2 r3 r4 r5 r1' r2' r3' r4' r5' v v' v2 : Int} {e : EffW} {i : InsZ} {g2 : GZ}, (registerI 0 m)[o]? = some i → cellK 1 i = true → nextW i ⟨o, [0, r1, r2, r3, r4, r5, 0, 0], false⟩ [v] = (⟨o', [0, r1', r2', r3', r4', r5', 0, 0], false⟩, [v'], e) → quietE e = true → o' ≤ 14 →
      Al (l.map bodyG) n (gz j o' r1' r2' r3' r4' r5') v' g2 v2 → Al (l.map bodyG) (n + 1) (gz j o r1 r2 r3 r4 r5) v g2 v2 := fun h1 h2 h3 h4 h5 h6 => al_st hj h1 h2 h3 h4 (show _ < 15 by omega) h6
  have hsay := fun {r1 r2 r3 r4 r5 v n : Int} => al_say (l := l) (N := 30) (r1 := r1) (r2 := r2) (r3 := r3) (r4 := r4) (r5 := r5) (v := v) (n := n) hj (o := 14) rfl rfl
  rw [phDo, if_neg (by simp [hp, gFitB]; omega)] at hq
  have h0 : ∀ {v2 : Int} {g2 : GZ} {n : Nat}, Al (l.map bodyG) n (gz j 2 p.w (bitsZ p.w 63 1) r3 r4 r5) p.w g2 v2 → Al (l.map bodyG) (n + 2) (gz j 0 r1 r2 r3 r4 r5) p.w g2 v2 := fun h =>
    st (o' := 1) (r1' := p.w) rfl rfl rfl rfl (by decide) (st (o' := 2) (r2' := bitsZ p.w 63 1) rfl rfl rfl rfl (by decide) h)
  by_cases ho : p.o = true
  · rw [if_pos ho] at hq
    cases hq
    rw [if_pos ho] at b63
    refine AlEnd.pre (M := 30) (N := 30) (g1 := gz j 14 p.w (u64m (-1)) r3 r4 r5) (v1 := p.w) ?_ (hsay rfl (by decide))
    refine h0 (n := 28) ?_
    rw [b63]
    refine st (o' := 11) rfl rfl (nx_same rfl) rfl (by decide) ?_
    refine st (o' := 12) (r2' := u64m (-1)) rfl rfl rfl rfl (by decide) ?_
    refine st (o' := 14) rfl rfl rfl rfl (by decide) ?_
    exact .refl _ _ _
  rw [if_neg ho, if_pos rfl] at hq
  rw [if_neg ho] at b63 hpw
  have e3 : u64m (65535 - m) = 65535 - m := wrap_u64 _ (by omega) (by omega)
  have h5 : ∀ {v2 : Int} {g2 : GZ} {n : Nat}, Al (l.map bodyG) n (gz j 5 p.w p.pa (65535 - m) r4 r5) p.w g2 v2 → Al (l.map bodyG) (n + 5) (gz j 0 r1 r2 r3 r4 r5) p.w g2 v2 := fun {v2 g2 n} h => by
    refine h0 (n := n + 3) ?_
    rw [b63]
    refine st (o' := 3) rfl rfl (nx_same' (fun e => absurd (show (0 : Int) = 1 from e) (by decide))) rfl (by decide) ?_
    refine st (o' := 4) (r2' := bitsZ p.w 16 16) rfl rfl rfl rfl (by decide) ?_
    refine st (o' := 5) (r3' := u64m (65535 - m)) rfl rfl rfl rfl (by decide) ?_
    rw [b16, e3]
    exact h
  by_cases hg : p.pa + m > 65535
  · rw [if_pos hg] at hq
    cases hq
    refine AlEnd.pre (M := 30) (N := 30) (g1 := gz j 14 p.w (u64m (-3)) (65535 - m) r4 r5) (v1 := p.w) ?_ (hsay rfl (by decide))
    refine h5 (n := 25) ?_
    refine st (o' := 13) rfl rfl (nx_less (rg := [0, p.w, p.pa, 65535 - m, r4, r5, 0, 0]) (a := 3) (b := 2) (show 65535 - m < p.pa by omega)) rfl (by decide) ?_
    refine st (o' := 14) (r2' := u64m (-3)) rfl rfl rfl rfl (by decide) ?_
    exact .refl _ _ _
  · rw [if_neg hg] at hq
    cases hq
    have e4 : u64m (p.w + u64m (65537 * m)) = Ph.w ⟨false, p.ph, p.pa + m, p.wa + m⟩ := by
      rw [um_add, hpw]
      simp only [Ph.w, pkWordZ]
      simp
      omega
    refine AlEnd.pre (M := 30) (N := 30) (g1 := gz j 14 p.w p.ph 1 (Ph.w ⟨false, p.ph, p.pa + m, p.wa + m⟩) r5) (v1 := Ph.w ⟨false, p.ph, p.pa + m, p.wa + m⟩) ?_ (hsay (wrap_i64 _ (by omega) (by omega)) (by omega))
    refine h5 (n := 25) ?_
    refine st (o' := 6) rfl rfl (nx_less' (rg := [0, p.w, p.pa, 65535 - m, r4, r5, 0, 0]) (a := 3) (b := 2) (show ¬ 65535 - m < p.pa by omega)) rfl (by decide) ?_
    refine st (o' := 7) (r4' := u64m (p.w + u64m (65537 * m))) rfl rfl rfl rfl (by decide) ?_
    rw [e4]
    refine st (o' := 8) (r3' := 1) (v' := Ph.w ⟨false, p.ph, p.pa + m, p.wa + m⟩) rfl rfl (nx_swap rfl) rfl (by decide) ?_
    refine st (o' := 9) rfl rfl (nx_same' (fun e => absurd (show (1 : Int) = 0 from e) (by decide))) rfl (by decide) ?_
    refine st (o' := 10) (r2' := bitsZ p.w 32 31) rfl rfl rfl rfl (by decide) ?_
    rw [b32]
    refine st (o' := 14) rfl rfl rfl rfl (by decide) ?_
    exact .refl _ _ _

set_option maxHeartbeats 2000000 in
theorem al_cls (hj : l[j]? = some c) (hc : c.w = 11) {p : Ph} (hp : p.right = true) {q : Ph} {n : Int} (hq : phDo p c.w c.n = some (q, n)) (r1 r2 r3 r4 r5 : Int) :
    AlEnd l j 60 (gz j 0 r1 r2 r3 r4 r5) p.w q.w n := by
  obtain ⟨hb, hpw, b63, b0, b32, b16⟩ := Ph.bits hp
  obtain ⟨w, m⟩ := c
  dsimp only at hc hq
  subst hc
  have st : ∀ {o o' n : Nat} {r1 r2 r3 r4 r5 r1' r2' r3' r4' r5' v v' v2 : Int} {e : EffW} {i : InsZ} {g2 : GZ}, (closesI 0)[o]? = some i → cellK 1 i = true → nextW i ⟨o, [0, r1, r2, r3, r4, r5, 0, 0], false⟩ [v] = (⟨o', [0, r1', r2', r3', r4', r5', 0, 0], false⟩, [v'], e) → quietE e = true → o' ≤ 10 →
      Al (l.map bodyG) n (gz j o' r1' r2' r3' r4' r5') v' g2 v2 → Al (l.map bodyG) (n + 1) (gz j o r1 r2 r3 r4 r5) v g2 v2 := fun h1 h2 h3 h4 h5 h6 => al_st hj h1 h2 h3 h4 (show _ < 11 by omega) h6
  have hsay := fun {r1 r2 r3 r4 r5 v n : Int} => al_say (l := l) (N := 30) (r1 := r1) (r2 := r2) (r3 := r3) (r4 := r4) (r5 := r5) (v := v) (n := n) hj (o := 10) rfl rfl
  have hm : ¬ (p.right = false ∨ gFitB 11 m = false ∨ (11 : Int) = 9) := fun h => by rw [phDo, if_pos h] at hq; cases hq
  rw [phDo, if_neg hm] at hq
  have h0 : ∀ {v2 : Int} {g2 : GZ} {n : Nat}, Al (l.map bodyG) n (gz j 2 p.w (bitsZ p.w 63 1) r3 r4 r5) p.w g2 v2 → Al (l.map bodyG) (n + 2) (gz j 0 r1 r2 r3 r4 r5) p.w g2 v2 := fun h =>
    st (o' := 1) (r1' := p.w) rfl rfl rfl rfl (by decide) (st (o' := 2) (r2' := bitsZ p.w 63 1) rfl rfl rfl rfl (by decide) h)
  by_cases ho : p.o = true
  · rw [if_pos ho] at hq
    cases hq
    rw [if_pos ho] at b63
    refine AlEnd.pre (M := 30) (N := 30) (g1 := gz j 10 p.w (u64m (-1)) r3 r4 r5) (v1 := p.w) ?_ (hsay rfl (by decide))
    refine h0 (n := 28) ?_
    rw [b63]
    refine st (o' := 9) rfl rfl (nx_same rfl) rfl (by decide) ?_
    refine st (o' := 10) (r2' := u64m (-1)) rfl rfl rfl rfl (by decide) ?_
    exact .refl _ _ _
  rw [if_neg ho, if_neg (by decide), if_neg (by decide), if_pos rfl] at hq
  rw [if_neg ho] at b63 hpw
  cases hq
  have e4 : u64m (p.w + u64m (-9223372036854775808)) = Ph.w ⟨true, p.ph, p.pa, p.wa⟩ := by
    rw [um_add, hpw]
    simp only [Ph.w, pkWordZ]
    simp
    omega
  refine AlEnd.pre (M := 30) (N := 30) (g1 := gz j 10 p.w (u64m 0) 1 (Ph.w ⟨true, p.ph, p.pa, p.wa⟩) r5) (v1 := Ph.w ⟨true, p.ph, p.pa, p.wa⟩) ?_ (hsay rfl (by decide))
  refine h0 (n := 28) ?_
  rw [b63]
  refine st (o' := 3) rfl rfl (nx_same' (fun e => absurd (show (0 : Int) = 1 from e) (by decide))) rfl (by decide) ?_
  refine st (o' := 4) (r4' := u64m (p.w + u64m (-9223372036854775808))) rfl rfl rfl rfl (by decide) ?_
  rw [e4]
  refine st (o' := 5) (r3' := 1) (v' := Ph.w ⟨true, p.ph, p.pa, p.wa⟩) rfl rfl (nx_swap rfl) rfl (by decide) ?_
  refine st (o' := 6) rfl rfl (nx_same' (fun e => absurd (show (1 : Int) = 0 from e) (by decide))) rfl (by decide) ?_
  refine st (o' := 7) rfl rfl rfl rfl (by decide) ?_
  refine st (o' := 8) (r2' := u64m 0) rfl rfl rfl rfl (by decide) ?_
  refine st (o' := 10) rfl rfl rfl rfl (by decide) ?_
  exact .refl _ _ _

theorem gfit_0 {c : CallZ} (h : gFit c) (h6 : c.w ≠ 6) (h10 : c.w ≠ 10) : c.n = 0 := by
  rw [gFit, gFitB, if_neg h6, if_neg h10] at h
  split at h
  · exact of_decide_eq_true h
  · cases h

theorem gfit_10 {c : CallZ} (h : gFit c) (h10 : c.w = 10) : 0 ≤ c.n ∧ c.n < 2147483648 := by
  rw [gFit, gFitB, if_neg (by omega), if_pos h10] at h
  exact of_decide_eq_true h

set_option maxHeartbeats 2000000 in
/-- A call of one who is alone. -/
theorem al_body (hj : l[j]? = some c) (hf : gFit c) {p : Ph} (hp : p.right = true) (r1 r2 r3 r4 r5 : Int) :
    (phAsk p c).1.right = true ∧ AlEnd l j 60 (gz j 0 r1 r2 r3 r4 r5) p.w (phAsk p c).1.w (phAsk p c).2 := by
  by_cases h9 : c.w = 9
  · have hn := gfit_0 hf (by omega) (by omega)
    obtain ⟨w, m⟩ := c
    dsimp only at h9 hn
    subst h9 hn
    obtain ⟨q, a, hq, hqr, ha⟩ := ph_some hp (w := 7) (n := 0) (by decide) (by decide)
    have e : phAsk p ⟨9, 0⟩ = if 0 ≤ a then (q, awN q a) else (q, a) := by
      rw [phAsk]
      rw [if_pos rfl, hq]
      simp only [Option.getD_some, true_and]
    obtain ⟨_, r1', r2', r3', r4', r5', h⟩ := al_arr hj (w := 7) (more := -1) (fail := 38) (.inl ⟨rfl, rfl⟩) (by decide) (fun o i h => by
      rw [show bodyG ⟨9, 0⟩ = arriveI 0 (-1) 38 ++ awaitI 29 from rfl, List.getElem?_append_left (List.getElem?_eq_some_iff.1 h).1]; exact h) ⟨by decide, by decide⟩ hp hq r1 r2 r3 r4 r5
    have hb := (Ph.bits hp).1
    rcases h with ⟨hn, h⟩ | ⟨hn, h⟩
    · rw [e, if_neg (by omega)]
      refine ⟨hqr, AlEnd.pre (M := 40) (N := 20) h ?_⟩
      exact al_say hj (o := 38) rfl rfl (by rcases hn with rfl | rfl <;> rfl) (by omega)
    · rw [e, if_pos (by omega)]
      refine ⟨hqr, AlEnd.pre (M := 40) (N := 20) h ?_⟩
      exact al_aw hj (q := 29) (fun o i h => by
        rw [show bodyG ⟨9, 0⟩ = arriveI 0 (-1) 38 ++ awaitI 29 from rfl, List.getElem?_append_right (by show 29 ≤ _; omega)]
        rw [show 29 + o - (arriveI 0 (-1) 38).length = o by show 29 + o - 29 = o; omega]
        exact h) rfl hqr a _ _ _ _
  · obtain ⟨q, a, hq, hqr, ha⟩ := ph_some hp (w := c.w) (n := c.n) hf h9
    have e : phAsk p c = (q, a) := by
      rw [phAsk]
      rw [if_neg h9, hq, if_neg (by simp [h9])]
      rfl
    rw [e]
    refine ⟨hqr, ?_⟩
    dsimp only
    rcases gfit_w hf with h6 | h10 | h11 | h9' | h8 | h7
    · exact al_reg hj h6 hp hq r1 r2 r3 r4 r5
    · have hn := gfit_10 hf h10
      obtain ⟨w, m⟩ := c
      dsimp only at h10 hn hq
      subst h10
      rw [ph_watch hp hn] at hq
      cases hq
      have hst : Al (l.map bodyG) 40 (gz j 0 r1 r2 r3 r4 r5) p.w (gz j 1 r1 r2 r3 r4 m) p.w := by
        refine al_st hj (i := ⟨1, 5, m, 0, 0⟩) (o' := 1) (r5' := u64m m) rfl rfl rfl rfl (show 1 < 11 by decide) ?_
        rw [show u64m m = m from wrap_u64 _ (by omega) (by omega)]
        exact .refl _ _ _
      exact AlEnd.pre (M := 40) (N := 20) hst (al_aw hj (q := 1) (fun o i h => by
        rw [Nat.add_comm]
        exact h) rfl hqr m _ _ _ _)
    · exact al_cls hj h11 hp hq r1 r2 r3 r4 r5
    · exact absurd h9' h9
    · have hn := gfit_0 hf (by omega) (by omega)
      obtain ⟨w, m⟩ := c
      dsimp only at h8 hn hq
      subst h8 hn
      obtain ⟨_, r1', r2', r3', r4', r5', h⟩ := al_arr hj (w := 8) (more := -65537) (fail := 30) (.inr ⟨rfl, rfl⟩) (by decide) (fun o i h => by
        rw [show bodyG ⟨8, 0⟩ = arriveI 0 (-65537) 30 ++ tellsI from rfl, List.getElem?_append_left (List.getElem?_eq_some_iff.1 h).1]; exact h) ⟨by decide, by decide⟩ hp hq r1 r2 r3 r4 r5
      have hb := (Ph.bits hp).1
      rcases h with ⟨hn, h⟩ | ⟨hn, h⟩
      · refine AlEnd.pre (M := 40) (N := 20) h ?_
        exact al_say hj (o := 30) rfl rfl (by rcases hn with rfl | rfl <;> rfl) (by omega)
      · refine AlEnd.pre (M := 40) (N := 20) h ?_
        refine AlEnd.pre (M := 1) (N := 19) (g1 := gz j 30 r1' a r3' r4' a) (v1 := q.w) (al_st hj (o' := 30) rfl rfl rfl rfl (show 30 < 31 by decide) (.refl _ _ _)) ?_
        exact al_say hj (o := 30) rfl rfl (wrap_i64 _ (by omega) (by omega)) (by omega)
    · have hn := gfit_0 hf (by omega) (by omega)
      obtain ⟨w, m⟩ := c
      dsimp only at h7 hn hq
      subst h7 hn
      obtain ⟨_, r1', r2', r3', r4', r5', h⟩ := al_arr hj (w := 7) (more := -1) (fail := 30) (.inl ⟨rfl, rfl⟩) (by decide) (fun o i h => by
        rw [show bodyG ⟨7, 0⟩ = arriveI 0 (-1) 30 ++ tellsI from rfl, List.getElem?_append_left (List.getElem?_eq_some_iff.1 h).1]; exact h) ⟨by decide, by decide⟩ hp hq r1 r2 r3 r4 r5
      have hb := (Ph.bits hp).1
      rcases h with ⟨hn, h⟩ | ⟨hn, h⟩
      · refine AlEnd.pre (M := 40) (N := 20) h ?_
        exact al_say hj (o := 30) rfl rfl (by rcases hn with rfl | rfl <;> rfl) (by omega)
      · refine AlEnd.pre (M := 40) (N := 20) h ?_
        refine AlEnd.pre (M := 1) (N := 19) (g1 := gz j 30 r1' a r3' r4' a) (v1 := q.w) (al_st hj (o' := 30) rfl rfl rfl rfl (show 30 < 31 by decide) (.refl _ _ _)) ?_
        exact al_say hj (o := 30) rfl rfl (wrap_i64 _ (by omega) (by omega)) (by omega)

/-- One thread goes on till it can't. -/
inductive To : MZ → MZ → Prop
  | refl (m : MZ) : To m m
  | step {m f : MZ} (hc : canZ m ((0 : Nat) : Int) = true) (hk : m.k < 20000) (h : To (stepZ m ((0 : Nat) : Int)).2 f) : To m f

theorem finish_to {m f : MZ} (h : To m f) (hw : WF m) (hl : m.ts.length = 1) (hf : canZ f ((0 : Nat) : Int) = false) : finish m = f := by
  obtain ⟨⟨h1, h2⟩, h3⟩ := finish_inv (P := fun x => To x f ∧ x.ts.length = 1) (fun x t hP hc hk => by
    obtain ⟨h1, h2⟩ := hP
    refine ⟨?_, (step_ts _ _).trans h2⟩
    obtain ⟨y, hy, _⟩ := can_out hc
    have := (List.getElem?_eq_some_iff.1 hy).1
    obtain rfl : t = 0 := by omega
    cases h1 with
    | refl => rw [hf] at hc; cases hc
    | step hc hk h => exact h) ⟨h, hl⟩ hw
  generalize finish m = y at h1 h2 h3
  cases h1 with
  | refl => rfl
  | step hc hk h => exact absurd ⟨hc, hk⟩ (h3 0 (by omega))

theorem can_0 {bl : List (List InsZ)} {gs : Nat → GZ} {v : Int} {m : MZ} (h : SysW 1 1 (fun _ => bl) gs [v] m) (hd : (gs 0).y.dn = false) (hs : m.ss = []) : canZ m ((0 : Nat) : Int) = true :=
  can_in (h.ts 0 (by decide)) (show (conc _ (gs 0)).dn = false from hd) (fun s hs' => by rw [hs] at hs'; cases hs')

theorem Al.to {bl : List (List InsZ)} {n : Nat} {g g2 : GZ} {v v2 : Int} (h : Al bl n g v g2 v2) : ∀ {gs : Nat → GZ} {m : MZ}, SysW 1 1 (fun _ => bl) gs [v] m → gs 0 = g → m.ss = [] → m.k + n < 20000 →
    ∃ gs' m', SysW 1 1 (fun _ => bl) gs' [v2] m' ∧ gs' 0 = g2 ∧ m'.ss = [] ∧ m'.el = m.el ∧ m'.k ≤ m.k + n ∧ ∀ f, To m' f → To m f := by
  induction h with
  | refl n g v => exact fun {gs m} h hg hs hk => ⟨gs, m, h, hg, hs, rfl, by omega, fun _ h => h⟩
  | @step n g v g1 v1 e g2 v2 hd hl hq _ ih =>
    intro gs m h hg hs hk
    have hc := can_0 h (by rw [hg]; exact hd) hs
    obtain ⟨h1, h2, h3, h4, h5⟩ := h.ls hc (by omega) hg hl
    have hs1 : (stepZ m ((0 : Nat) : Int)).2.ss = [] := by
      rw [h2, hs]
      cases e <;> first | rfl | cases hq
    have he1 : (stepZ m ((0 : Nat) : Int)).2.el = m.el := by
      rw [h4]
      cases e <;> first | rfl | cases hq
    obtain ⟨gs', m', a1, a2, a3, a4, a5, a6⟩ := ih h1 (updG_same _ _ _) hs1 (by rw [h5]; omega)
    exact ⟨gs', m', a1, a2, a3, a4.trans he1, by rw [h5] at a5; omega, fun f hf => .step hc (by omega) (a6 f hf)⟩

theorem al_run (hf : ∀ c ∈ l, gFit c) : ∀ (cs : List CallZ) (j : Nat), l.drop j = cs → j ≤ l.length → ∀ (p : Ph), p.right = true → ∀ (gs : Nat → GZ) (m : MZ) (r1 r2 r3 r4 r5 : Int), SysW 1 1 (fun _ => l.map bodyG) gs [p.w] m → gs 0 = gz j 0 r1 r2 r3 r4 r5 → m.ss = [] → m.k + 100 * cs.length + 100 < 20000 →
    ∃ f, To m f ∧ canZ f ((0 : Nat) : Int) = false ∧ ansT 0 f.el = ansT 0 m.el ++ (alone p cs).1 ∧ allZ f = !(alone p cs).2 ∧ stuckZ f = (alone p cs).2
  | [], j, hj, hjl, p, hp, gs, m, r1, r2, r3, r4, r5, h, hg, hs, hk => by
    have hjl : j = l.length := by
      have := congrArg List.length hj
      rw [List.length_drop, List.length_nil] at this
      omega
    have hc := can_0 h (by rw [hg]) hs
    obtain ⟨h1, h2, h3, h4, h5⟩ := h.ls hc (by simp at hk; omega) hg (LS.halt hjl)
    refine ⟨_, .step hc (by simp at hk; omega) (.refl _), ?_, ?_, ?_, ?_⟩
    · cases hcz : canZ (stepZ m ((0 : Nat) : Int)).2 ((0 : Nat) : Int) with
      | false => rfl
      | true =>
        have := (h1.can hcz).2.1
        rw [updG_same] at this
        cases this
    · rw [h4]
      show ansT 0 m.el = _
      rw [alone, List.append_nil]
    all_goals
      have hd : ∀ x ∈ (stepZ m ((0 : Nat) : Int)).2.ts, x.dn = true := fun x hx => by
        obtain ⟨t, ht⟩ := List.mem_iff_getElem?.1 hx
        have htn : t < 1 := by rw [← h1.ln]; exact (List.getElem?_eq_some_iff.1 ht).1
        obtain rfl : t = 0 := by omega
        rw [h1.ts 0 (by decide), updG_same] at ht
        obtain rfl := Option.some.inj ht
        rfl
    · exact all_ofS hd
    · exact stuck_ofS hd
  | c :: cs, j, hj, hjl, p, hp, gs, m, r1, r2, r3, r4, r5, h, hg, hs, hk => by
    have hjc : l[j]? = some c := by
      have : (l.drop j)[0]? = some c := by rw [hj]; rfl
      rw [List.getElem?_drop, Nat.add_zero] at this
      exact this
    rw [List.length_cons] at hk
    obtain ⟨hq, he⟩ := al_body hjc (hf c (List.mem_of_getElem? hjc)) hp r1 r2 r3 r4 r5
    rcases he with ⟨hn, g1, s1, s2, s3, s4, s5, ha, hd, hl⟩ | ⟨hn, g1, g2, ha, hd, hd2, hl⟩
    · obtain ⟨gs', m', a1, a2, a3, a4, a5, a6⟩ := ha.to h hg hs (by omega)
      have hc := can_0 a1 (by rw [a2]; exact hd) a3
      obtain ⟨h1, h2, h3, h4, h5⟩ := a1.ls hc (by omega) a2 hl
      have hjl2 := (List.getElem?_eq_some_iff.1 hjc).1
      have hdr : l.drop (j + 1) = cs := by
        have := congrArg (List.drop 1) hj
        rw [List.drop_drop] at this
        exact this
      obtain ⟨f, b1, b2, b3, b4, b5⟩ := al_run hf cs (j + 1) hdr (by omega) (phAsk p c).1 hq _ _ s1 s2 s3 s4 s5 h1 (updG_same _ _ _) (by rw [h2]; exact a3) (by rw [h5]; omega)
      refine ⟨f, a6 _ (.step hc (by omega) b1), b2, ?_, ?_, ?_⟩
      · rw [b3, h4, alone, if_neg hn]
        show ansT 0 (m'.el ++ [⟨((m'.k + 1 : Nat) : Int), 3, ((0 : Nat) : Int), _⟩]) ++ _ = _
        rw [ansT_snoc, if_pos ⟨rfl, rfl⟩, a4, List.append_assoc]
        rfl
      · rw [b4, alone, if_neg hn]
      · rw [b5, alone, if_neg hn]
    · obtain ⟨gs', m', a1, a2, a3, a4, a5, a6⟩ := ha.to h hg hs (by omega)
      have hc := can_0 a1 (by rw [a2]; exact hd) a3
      obtain ⟨h1, h2, h3, h4, h5⟩ := a1.ls hc (by omega) a2 hl
      have hss : (stepZ m' ((0 : Nat) : Int)).2.ss = [⟨((0 : Nat) : Int), ((0 : Nat) : Int)⟩] := by
        rw [h2, a3]; rfl
      have hno : canZ (stepZ m' ((0 : Nat) : Int)).2 ((0 : Nat) : Int) = false := by
        cases hcz : canZ (stepZ m' ((0 : Nat) : Int)).2 ((0 : Nat) : Int) with
        | false => rfl
        | true =>
          have := (h1.can hcz).2.2
          rw [hss] at this
          exact absurd rfl (this _ (List.mem_singleton.2 rfl))
      have hall : allZ (stepZ m' ((0 : Nat) : Int)).2 = false := by
        cases ha : allZ (stepZ m' ((0 : Nat) : Int)).2 with
        | false => rfl
        | true =>
          have := List.all_eq_true.1 ha _ (List.mem_of_getElem? (h1.ts 0 (by decide)))
          rw [updG_same] at this
          have : g2.y.dn = true := this
          rw [hd2] at this
          cases this
      refine ⟨_, a6 _ (.step hc (by omega) (.refl _)), hno, ?_, ?_, ?_⟩
      · rw [h4, alone, if_pos hn, List.append_nil]
        show ansT 0 m'.el = _
        rw [a4]
      · rw [hall, alone, if_pos hn]; rfl
      · rw [stuckZ, hall, h1.ln, alone, if_pos hn]
        show ((List.range 1).all _ && true) = true
        rw [Bool.and_true, List.all_eq_true]
        intro t ht
        obtain rfl : t = 0 := by have := List.mem_range.1 ht; omega
        rw [hno]; rfl

/-- In the end. -/
theorem al_fin {l : List CallZ} (hl : l.length ≤ 6) (hc : ∀ c ∈ l, c ∈ guestT ++ ownL) {p : Ph} (hp : p.right = true) :
    ansT 0 (finish (mz0 [gathP l] [p.w])).el = (alone p l).1 ∧ allZ (finish (mz0 [gathP l] [p.w])) = !(alone p l).2 ∧ stuckZ (finish (mz0 [gathP l] [p.w])) = (alone p l).2 := by
  have hb := (Ph.bits hp).1
  have hpw := (Ph.bits hp).2.1
  have hwf : WF (mz0 [gathP l] [p.w]) := mz0_wf (by simp) (by simp) (fun q hq => by rw [List.mem_singleton.1 hq]; exact asked_right hl hc) (fun x hx => by
    obtain rfl := List.mem_singleton.1 hx
    rw [hpw]
    split <;> omega)
  have hS : SysW 1 1 (fun _ => l.map bodyG) (fun _ => ⟨0, th0⟩) [p.w] (mz0 [gathP l] [p.w]) := by
    refine ⟨hwf, by simp [mz0], rfl, fun t ht => ?_, rfl, fun t ht => ?_⟩
    · obtain rfl : t = 0 := by omega
      rw [← gathP_cat]; rfl
    · obtain rfl : t = 0 := by omega
      rfl
  obtain ⟨f, h1, h2, h3, h4, h5⟩ := al_run (fun c h => asked_ok.1 c (hc c h)) l 0 rfl (by omega) p hp _ _ 0 0 0 0 0 hS rfl rfl (by show 0 + 100 * l.length + 100 < 20000; omega)
  rw [finish_to h1 hwf (by simp [mz0]) h2]
  exact ⟨h3, h4, h5⟩

end
end Go.Mac
