/- One thread alone that asks a phaser: what comes of each call. -/
import Derived.Test.YtlimhldkkbaohaaDoorQPhaserG
import Derived.Test.YtlimhldkkbaohaaDoorQGcX
open Go Go.Proofs Go.Mac
set_option maxRecDepth 100000
namespace Go.Mac

def Ph.w (p : Ph) : Int := pkWordZ p.o p.ph p.pa p.wa

/-- An effect that neither says a word nor puts to sleep. -/
def quietE : EffW → Bool
  | .no => true
  | .act _ _ _ _ => true
  | .wake _ _ => true
  | _ => false

/-- One thread goes on alone, at most so many steps, without a word and without sleep. -/
inductive Al (bl : List (List InsZ)) : Nat → GZ → Int → GZ → Int → Prop
  | refl (n : Nat) (g : GZ) (v : Int) : Al bl n g v g v
  | step {n : Nat} {g : GZ} {v : Int} {g1 : GZ} {v1 : Int} {e : EffW} {g2 : GZ} {v2 : Int} (hd : g.y.dn = false) (hl : LS 1 bl g [v] g1 [v1] e) (hq : quietE e = true) (h : Al bl n g1 v1 g2 v2) : Al bl (n + 1) g v g2 v2

theorem Al.more {bl : List (List InsZ)} {n : Nat} {g g1 : GZ} {v v1 : Int} (k : Nat) (h : Al bl n g v g1 v1) : Al bl (k + n) g v g1 v1 := by
  induction h with
  | refl n g v => exact .refl _ g v
  | step hd hl hq h ih => exact .step hd hl hq ih

theorem Al.trans {bl : List (List InsZ)} {n m : Nat} {g g1 g2 : GZ} {v v1 v2 : Int} (h : Al bl n g v g1 v1) (h2 : Al bl m g1 v1 g2 v2) : Al bl (n + m) g v g2 v2 := by
  induction h with
  | refl n g v => exact h2.more n
  | @step n g v g1 v1 e g2' v2' hd hl hq h ih =>
    rw [show n + 1 + m = (n + m) + 1 by omega]
    exact .step hd hl hq (ih h2)

abbrev gz (j o : Nat) (r1 r2 r3 r4 r5 : Int) : GZ := ⟨j, ⟨o, [0, r1, r2, r3, r4, r5, 0, 0], false⟩⟩

theorem al_st {l : List CallZ} {j : Nat} {c : CallZ} (hj : l[j]? = some c) {o o' n : Nat} {r1 r2 r3 r4 r5 r1' r2' r3' r4' r5' v v' v2 : Int} {e : EffW} {i : InsZ} {g2 : GZ} (hi : (bodyG c)[o]? = some i) (hc : cellK 1 i = true)
    (hn : nextW i ⟨o, [0, r1, r2, r3, r4, r5, 0, 0], false⟩ [v] = (⟨o', [0, r1', r2', r3', r4', r5', 0, 0], false⟩, [v'], e)) (hq : quietE e = true) (ho : o' < (bodyG c).length) (h : Al (l.map bodyG) n (gz j o' r1' r2' r3' r4' r5') v' g2 v2) : Al (l.map bodyG) (n + 1) (gz j o r1 r2 r3 r4 r5) v g2 v2 :=
  .step rfl (LS.inn hj hi (cellK_ok hc) hn ho) hq h

theorem Ph.bits {p : Ph} (hp : p.right = true) : (0 ≤ p.ph ∧ p.ph < 2147483648 ∧ 0 ≤ p.pa ∧ p.pa ≤ 65535 ∧ 0 ≤ p.wa ∧ p.wa ≤ p.pa) ∧ p.w = (p.wa + p.pa * 65536 + p.ph * 4294967296 + if p.o then 9223372036854775808 else 0) ∧ bitsZ p.w 63 1 = (if p.o then 1 else 0) ∧ bitsZ p.w 0 16 = p.wa ∧ bitsZ p.w 32 31 = p.ph ∧ bitsZ p.w 16 16 = p.pa := by
  have h := pkRightB_iff.1 hp
  obtain ⟨o, ph, pa, wa⟩ := p
  dsimp only at h ⊢
  have e : Ph.w ⟨o, ph, pa, wa⟩ = wa + pa * 65536 + ph * 4294967296 + if o then 9223372036854775808 else 0 := rfl
  refine ⟨h, e, ?_, ?_, ?_, ?_⟩ <;> (rw [e]; cases o)
  · rw [gb_over (by simp; omega)]; simp; omega
  · rw [gb_over (by simp; omega)]; simp; omega
  · rw [gb_wait (by simp; omega)]; simp; omega
  · rw [gb_wait (by simp; omega)]; simp; omega
  · rw [gb_phase (by simp; omega)]; simp; omega
  · rw [gb_phase (by simp; omega)]; simp; omega
  · rw [gb_part (by simp; omega)]; simp; omega
  · rw [gb_part (by simp; omega)]; simp; omega

section
variable {l : List CallZ} {j : Nat} {c : CallZ}

set_option maxHeartbeats 4000000 in
/-- An arrival, alone. -/
theorem al_arr (hj : l[j]? = some c) {w : Int} {fail : Int} {more : Int} (hw : w = 7 ∧ more = -1 ∨ w = 8 ∧ more = -65537) (hf : 0 ≤ fail) (hB : ∀ (o : Nat) (i : InsZ), (arriveI 0 more fail)[o]? = some i → (bodyG c)[o]? = some i) (hlen : 29 < (bodyG c).length ∧ fail.toNat < (bodyG c).length)
    {p : Ph} (hp : p.right = true) {q : Ph} {n : Int} (hq : phDo p w 0 = some (q, n)) (r1 r2 r3 r4 r5 : Int) :
    q.right = true ∧ ∃ r1' r2' r3' r4' r5', (n = -1 ∨ n = -2) ∧ Al (l.map bodyG) 40 (gz j 0 r1 r2 r3 r4 r5) p.w (gz j fail.toNat r1' (u64m n) r3' r4' r5') q.w ∨ n = p.ph ∧ Al (l.map bodyG) 40 (gz j 0 r1 r2 r3 r4 r5) p.w (gz j 29 r1' r2' r3' r4' n) q.w := by
  obtain ⟨hb, hpw, b63, b0, b32, b16⟩ := Ph.bits hp
  have st : ∀ {o o' n : Nat} {r1 r2 r3 r4 r5 r1' r2' r3' r4' r5' v v' v2 : Int} {e : EffW} {i : InsZ} {g2 : GZ}, (arriveI 0 more fail)[o]? = some i → cellK 1 i = true → nextW i ⟨o, [0, r1, r2, r3, r4, r5, 0, 0], false⟩ [v] = (⟨o', [0, r1', r2', r3', r4', r5', 0, 0], false⟩, [v'], e) → quietE e = true → o' ≤ 29 →
      Al (l.map bodyG) n (gz j o' r1' r2' r3' r4' r5') v' g2 v2 → Al (l.map bodyG) (n + 1) (gz j o r1 r2 r3 r4 r5) v g2 v2 := fun h1 h2 h3 h4 h5 h6 => al_st hj (hB _ _ h1) h2 h3 h4 (by omega) h6
  have stf : ∀ {o n : Nat} {r1 r2 r3 r4 r5 v v2 : Int} {g2 : GZ}, (arriveI 0 more fail)[o]? = some ⟨10, fail, 0, 0, 0⟩ →
      Al (l.map bodyG) n (gz j fail.toNat r1 r2 r3 r4 r5) v g2 v2 → Al (l.map bodyG) (n + 1) (gz j o r1 r2 r3 r4 r5) v g2 v2 := fun h1 h6 => al_st hj (hB _ _ h1) (by simp [cellK]; omega) rfl rfl hlen.2 h6
  rw [phDo, if_neg (by rw [hp]; rcases hw with ⟨rfl, _⟩ | ⟨rfl, _⟩ <;> simp [gFitB])] at hq
  have h0 : ∀ {v2 : Int} {g2 : GZ} {n : Nat}, Al (l.map bodyG) n (gz j 2 p.w (bitsZ p.w 63 1) r3 r4 r5) p.w g2 v2 → Al (l.map bodyG) (n + 2) (gz j 0 r1 r2 r3 r4 r5) p.w g2 v2 := fun h =>
    st (o' := 1) (r1' := p.w) rfl rfl rfl rfl (by decide) (st (o' := 2) (r2' := bitsZ p.w 63 1) rfl rfl rfl rfl (by decide) h)
  by_cases ho : p.o = true
  · rw [if_pos ho] at hq
    cases hq
    refine ⟨hp, p.w, 0, r3, r4, r5, .inl ⟨.inl rfl, ?_⟩⟩
    refine h0 (n := 38) ?_
    rw [b63, if_pos ho]
    refine st (o' := 25) rfl rfl (nx_same rfl) rfl (by decide) ?_
    refine st (o' := 26) (r2' := u64m (-1)) rfl rfl rfl rfl (by decide) ?_
    refine stf rfl ?_
    exact .refl _ _ _
  rw [if_neg ho, if_neg (by rcases hw with ⟨rfl, _⟩ | ⟨rfl, _⟩ <;> decide), if_neg (by rcases hw with ⟨rfl, _⟩ | ⟨rfl, _⟩ <;> decide), if_neg (by rcases hw with ⟨rfl, _⟩ | ⟨rfl, _⟩ <;> decide)] at hq
  rw [if_neg ho] at hpw b63
  have h4 : ∀ {v2 : Int} {g2 : GZ} {n : Nat}, Al (l.map bodyG) n (gz j 4 p.w p.wa r3 r4 r5) p.w g2 v2 → Al (l.map bodyG) (n + 4) (gz j 0 r1 r2 r3 r4 r5) p.w g2 v2 := fun {v2 g2 n} h => by
    refine h0 (n := n + 2) ?_
    rw [b63]
    refine st (o' := 3) rfl rfl (nx_same' (fun e => absurd (show (0 : Int) = 1 from e) (by decide))) rfl (by decide) ?_
    refine st (o' := 4) (r2' := bitsZ p.w 0 16) rfl rfl rfl rfl (by decide) ?_
    rw [b0]
    exact h
  by_cases hw0 : p.wa = 0
  · rw [if_pos hw0] at hq
    cases hq
    refine ⟨hp, p.w, 0, r3, r4, r5, .inl ⟨.inr rfl, ?_⟩⟩
    refine h4 (n := 36) ?_
    refine st (o' := 27) rfl rfl (nx_same hw0) rfl (by decide) ?_
    refine st (o' := 28) (r2' := u64m (-2)) rfl rfl rfl rfl (by decide) ?_
    refine stf rfl ?_
    exact .refl _ _ _
  rw [if_neg hw0] at hq
  have h6 : ∀ {v2 : Int} {g2 : GZ} {n : Nat}, Al (l.map bodyG) n (gz j 6 p.w p.wa r3 (p.w + more) r5) p.w g2 v2 → Al (l.map bodyG) (n + 6) (gz j 0 r1 r2 r3 r4 r5) p.w g2 v2 := fun {v2 g2 n} h => by
    refine h4 (n := n + 2) ?_
    refine st (o' := 5) rfl rfl (nx_same' hw0) rfl (by decide) ?_
    refine st (o' := 6) (r4' := u64m (p.w + u64m more)) rfl rfl rfl rfl (by decide) ?_
    rw [um_add, show (p.w + more) % 18446744073709551616 = p.w + more by rcases hw with ⟨_, rfl⟩ | ⟨_, rfl⟩ <;> omega]
    exact h
  have e18 : ∀ {r2 r3 r4 r5 : Int} {n : Nat} {g2 : GZ} {v2 : Int}, Al (l.map bodyG) n (gz j 21 p.w r2 1 r4 p.ph) r4 g2 v2 → Al (l.map bodyG) (n + 3) (gz j 18 p.w r2 r3 r4 r5) p.w g2 v2 := fun {r2 r3 r4 r5 n g2 v2} h => by
    refine st (o' := 19) (r3' := 1) (v' := r4) rfl rfl (nx_swap rfl) rfl (by decide) ?_
    refine st (o' := 20) rfl rfl (nx_same' (fun e => absurd (show (1 : Int) = 0 from e) (by decide))) rfl (by decide) ?_
    refine st (o' := 21) (r5' := bitsZ p.w 32 31) rfl rfl rfl rfl (by decide) ?_
    rw [b32]
    exact h
  by_cases h1 : p.wa - 1 > 0
  · rw [if_pos h1] at hq
    cases hq
    refine ⟨?_, p.w, p.wa, 1, p.w + more, 0, .inr ⟨rfl, ?_⟩⟩
    · refine pkRightB_iff.2 ?_
      dsimp only
      rcases hw with ⟨rfl, _⟩ | ⟨rfl, _⟩ <;> simp <;> omega
    have hne : p.wa ≠ 1 := by omega
    refine h6 (n := 34) ?_
    refine st (o' := 7) rfl rfl (nx_same' hne) rfl (by decide) ?_
    refine st (o' := 18) rfl rfl rfl rfl (by decide) ?_
    refine e18 (n := 29) ?_
    refine st (o' := 22) rfl rfl (nx_same' hne) rfl (by decide) ?_
    refine st (o' := 29) rfl rfl rfl rfl (by decide) ?_
    have e : Ph.w ⟨false, p.ph, if w = 8 then p.pa - 1 else p.pa, p.wa - 1⟩ = p.w + more := by
      rw [hpw]
      simp only [Ph.w, pkWordZ]
      rcases hw with ⟨rfl, rfl⟩ | ⟨rfl, rfl⟩ <;> simp <;> omega
    rw [e]
    exact .refl _ _ _
  rw [if_neg h1] at hq
  have hwa : p.wa = 1 := by omega
  have e21 : ∀ {r4 v : Int} {n : Nat}, Al (l.map bodyG) (n + 3) (gz j 21 p.w p.wa 1 r4 p.ph) v (gz j 29 p.w p.wa 1 r4 p.ph) v := fun {r4 v n} => by
    refine st (o' := 23) rfl rfl (nx_same hwa) rfl (by decide) ?_
    refine st (o' := 24) rfl rfl rfl rfl (by decide) ?_
    refine st (o' := 29) rfl rfl rfl rfl (by decide) ?_
    exact .refl _ _ _
  have hpa' : ∃ P : Int, (if w = 8 then p.pa - 1 else p.pa) = P ∧ 0 ≤ P ∧ P ≤ 65535 ∧ p.w + more = P * 65536 + p.ph * 4294967296 := by
    refine ⟨_, rfl, ?_⟩
    rcases hw with ⟨rfl, rfl⟩ | ⟨rfl, rfl⟩ <;> simp <;> omega
  obtain ⟨P, hP, hP0, hP1, hwm⟩ := hpa'
  rw [hP] at hq
  have hb4 : bitsZ (p.w + more) 16 16 = P := by
    rw [gb_part (by omega), hwm]
    omega
  have h9 : ∀ {v2 : Int} {g2 : GZ} {n : Nat}, Al (l.map bodyG) n (gz j 9 p.w p.wa P (p.w + more) r5) p.w g2 v2 → Al (l.map bodyG) (n + 8) (gz j 0 r1 r2 r3 r4 r5) p.w g2 v2 := fun {v2 g2 n} h => by
    refine h6 (n := n + 2) ?_
    refine st (o' := 8) rfl rfl (nx_same hwa) rfl (by decide) ?_
    refine st (o' := 9) (r3' := bitsZ (p.w + more) 16 16) rfl rfl rfl rfl (by decide) ?_
    rw [hb4]
    exact h
  by_cases hP2 : P = 0
  · rw [if_pos hP2] at hq
    cases hq
    refine ⟨pkRightB_iff.2 (by dsimp only; omega), p.w, p.wa, 1, p.w + more + 9223372036854775808, 0, .inr ⟨rfl, ?_⟩⟩
    refine h9 (n := 32) ?_
    refine st (o' := 17) rfl rfl (nx_same hP2) rfl (by decide) ?_
    refine st (o' := 18) (r4' := u64m (p.w + more + u64m (-9223372036854775808))) rfl rfl rfl rfl (by decide) ?_
    have e : Ph.w ⟨true, p.ph, P, p.wa - 1⟩ = p.w + more + 9223372036854775808 := by
      show p.wa - 1 + P * 65536 + p.ph * 4294967296 + 9223372036854775808 = _
      rw [hwm, hwa]
      omega
    have e2 : u64m (p.w + more + u64m (-9223372036854775808)) = p.w + more + 9223372036854775808 := by rw [um_add]; omega
    rw [e, e2]
    exact e18 (n := 27) (e21 (n := 24))
  rw [if_neg hP2] at hq
  cases hq
  refine ⟨pkRightB_iff.2 (by dsimp only; omega), p.w, p.wa, 1, Ph.w ⟨false, (p.ph + 1) % 2147483648, P, P⟩, 0, .inr ⟨rfl, ?_⟩⟩
  refine h9 (n := 32) ?_
  refine st (o' := 10) rfl rfl (nx_same' hP2) rfl (by decide) ?_
  refine st (o' := 11) (r4' := u64m (p.w + more + P)) rfl rfl rfl rfl (by decide) ?_
  refine st (o' := 12) (r3' := bitsZ p.w 32 31) rfl rfl rfl rfl (by decide) ?_
  have e2 : u64m (p.w + more + P) = p.w + more + P := wrap_u64 _ (by omega) (by omega)
  rw [b32, e2]
  have e : Ph.w ⟨false, (p.ph + 1) % 2147483648, P, P⟩ = P + P * 65536 + (p.ph + 1) % 2147483648 * 4294967296 := by
    simp only [Ph.w, pkWordZ]
    simp
  by_cases hl : p.ph = 2147483647
  · refine st (o' := 15) rfl rfl (nx_same hl) rfl (by decide) ?_
    refine st (o' := 16) (r4' := u64m (p.w + more + P + u64m (-9223372032559808512))) rfl rfl rfl rfl (by decide) ?_
    refine st (o' := 18) rfl rfl rfl rfl (by decide) ?_
    have e3 : u64m (p.w + more + P + u64m (-9223372032559808512)) = Ph.w ⟨false, (p.ph + 1) % 2147483648, P, P⟩ := by rw [um_add, e]; omega
    rw [e3]
    exact e18 (n := 23) (e21 (n := 20))
  · refine st (o' := 13) rfl rfl (nx_same' hl) rfl (by decide) ?_
    refine st (o' := 14) (r4' := u64m (p.w + more + P + u64m 4294967296)) rfl rfl rfl rfl (by decide) ?_
    refine st (o' := 18) rfl rfl rfl rfl (by decide) ?_
    have e3 : u64m (p.w + more + P + u64m 4294967296) = Ph.w ⟨false, (p.ph + 1) % 2147483648, P, P⟩ := by
      rw [um_add, e, Int.emod_eq_of_lt (a := p.ph + 1) (by omega) (by omega), hwm]
      omega
    rw [e3]
    exact e18 (n := 23) (e21 (n := 20))

/-- A wait's answer, alone: the phase, or over, or none. -/
def awN (p : Ph) (x : Int) : Int := if p.o = true then -1 else if p.ph = x then -4 else p.ph

/-- How a call ends: it says its answer, or sleeps. -/
def AlEnd (l : List CallZ) (j N : Nat) (g : GZ) (v : Int) (v' n : Int) : Prop :=
  n ≠ -4 ∧ (∃ g1 r1 r2 r3 r4 r5, Al (l.map bodyG) N g v g1 v' ∧ g1.y.dn = false ∧ LS 1 (l.map bodyG) g1 [v'] (gz (j + 1) 0 r1 r2 r3 r4 r5) [v'] (.say 3 n)) ∨
  n = -4 ∧ ∃ g1 g2, Al (l.map bodyG) N g v g1 v' ∧ g1.y.dn = false ∧ g2.y.dn = false ∧ LS 1 (l.map bodyG) g1 [v'] g2 [v'] (.sleep 0)

theorem AlEnd.pre {N M : Nat} {g g1 : GZ} {v v1 v' n : Int} (h : Al (l.map bodyG) M g v g1 v1) (h2 : AlEnd l j N g1 v1 v' n) : AlEnd l j (M + N) g v v' n := by
  rcases h2 with ⟨hn, g2, r1, r2, r3, r4, r5, ha, hd, hl⟩ | ⟨hn, g2, g3, ha, hd, hd2, hl⟩
  · exact .inl ⟨hn, g2, r1, r2, r3, r4, r5, h.trans ha, hd, hl⟩
  · exact .inr ⟨hn, g2, g3, h.trans ha, hd, hd2, hl⟩

theorem al_say (hj : l[j]? = some c) {o : Nat} (hi : (bodyG c)[o]? = some ⟨16, 3, 2, 0, 0⟩) (ho : o + 1 = (bodyG c).length) {N : Nat} {r1 r2 r3 r4 r5 v n : Int} (hn : IntKind.i64.wrap r2 = n) (h4 : n ≠ -4) : AlEnd l j N (gz j o r1 r2 r3 r4 r5) v v n := by
  subst hn
  exact .inl ⟨h4, _, r1, r2, r3, r4, r5, .refl _ _ _, rfl, LS.out hj hi (cellK_ok rfl) rfl ho⟩

set_option maxHeartbeats 2000000 in
theorem al_aw (hj : l[j]? = some c) {q : Nat} (hB : ∀ (o : Nat) (i : InsZ), (awaitI q)[o]? = some i → (bodyG c)[q + o]? = some i) (hlen : (bodyG c).length = q + 10) {p : Ph} (hp : p.right = true) (x : Int) (r1 r2 r3 r4 : Int) :
    AlEnd l j 20 (gz j q r1 r2 r3 r4 x) p.w p.w (awN p x) := by
  obtain ⟨hb, hpw, b63, b0, b32, b16⟩ := Ph.bits hp
  have t8 : ((q : Int) + 8).toNat = q + 8 := by omega
  have t6 : ((q : Int) + 6).toNat = q + 6 := by omega
  have t9 : ((q : Int) + 9).toNat = q + 9 := by omega
  have c8 : cellK 1 ⟨11, 2, 1, (q : Int) + 8, 0⟩ = true := by simp [cellK]; omega
  have c6 : cellK 1 ⟨13, 2, 5, (q : Int) + 6, 0⟩ = true := by simp [cellK]; omega
  have c9 : cellK 1 ⟨10, (q : Int) + 9, 0, 0, 0⟩ = true := by simp [cellK]; omega
  have st : ∀ {o o' n : Nat} {r1 r2 r3 r4 r5 r1' r2' r3' r4' r5' v v' v2 : Int} {e : EffW} {i : InsZ} {g2 : GZ}, (awaitI q)[o]? = some i → cellK 1 i = true → nextW i ⟨q + o, [0, r1, r2, r3, r4, r5, 0, 0], false⟩ [v] = (⟨q + o', [0, r1', r2', r3', r4', r5', 0, 0], false⟩, [v'], e) → quietE e = true → o' ≤ 9 →
      Al (l.map bodyG) n (gz j (q + o') r1' r2' r3' r4' r5') v' g2 v2 → Al (l.map bodyG) (n + 1) (gz j (q + o) r1 r2 r3 r4 r5) v g2 v2 := fun h1 h2 h3 h4 h5 h6 => al_st hj (hB _ _ h1) h2 h3 h4 (by omega) h6
  have hsay := fun {r1 r2 r3 r4 r5 v n : Int} => al_say (l := l) (N := 10) (r1 := r1) (r2 := r2) (r3 := r3) (r4 := r4) (r5 := r5) (v := v) (n := n) hj (hB 9 _ rfl) (by omega)
  have h0 : ∀ {v2 : Int} {g2 : GZ} {n : Nat}, Al (l.map bodyG) n (gz j (q + 2) p.w (bitsZ p.w 63 1) r3 r4 x) p.w g2 v2 → Al (l.map bodyG) (n + 2) (gz j (q + 0) r1 r2 r3 r4 x) p.w g2 v2 := fun h =>
    st (o' := 1) (r1' := p.w) rfl rfl rfl rfl (by decide) (st (o' := 2) (r2' := bitsZ p.w 63 1) rfl rfl rfl rfl (by decide) h)
  rw [awN]
  by_cases ho : p.o = true
  · rw [if_pos ho]
    rw [if_pos ho] at b63
    refine AlEnd.pre (M := 10) (N := 10) (g1 := gz j (q + 9) p.w (u64m (-1)) r3 r4 x) (v1 := p.w) ?_ (hsay rfl (by decide))
    refine h0 (n := 8) ?_
    rw [b63]
    refine st (o' := 8) rfl c8 ((nx_same rfl).trans (by rw [t8])) rfl (by decide) ?_
    refine st (o' := 9) (r2' := u64m (-1)) rfl rfl rfl rfl (by decide) ?_
    exact .refl _ _ _
  rw [if_neg ho]
  rw [if_neg ho] at b63
  have h4 : ∀ {v2 : Int} {g2 : GZ} {n : Nat}, Al (l.map bodyG) n (gz j (q + 4) p.w p.ph r3 r4 x) p.w g2 v2 → Al (l.map bodyG) (n + 4) (gz j (q + 0) r1 r2 r3 r4 x) p.w g2 v2 := fun {v2 g2 n} h => by
    refine h0 (n := n + 2) ?_
    rw [b63]
    refine st (o' := 3) rfl c8 (nx_same' (fun e => absurd (show (0 : Int) = 1 from e) (by decide))) rfl (by decide) ?_
    refine st (o' := 4) (r2' := bitsZ p.w 32 31) rfl rfl rfl rfl (by decide) ?_
    rw [b32]
    exact h
  by_cases hx : p.ph = x
  · rw [if_pos hx]
    refine AlEnd.pre (M := 10) (N := 10) (g1 := gz j (q + 6) p.w p.ph r3 r4 x) (v1 := p.w) ?_ ?_
    · refine h4 (n := 6) ?_
      refine st (o' := 6) rfl c6 ((nx_equal (rg := [0, p.w, p.ph, r3, r4, x, 0, 0]) (a := 2) (b := 5) hx).trans (by rw [t6])) rfl (by decide) ?_
      exact .refl _ _ _
    · exact .inr ⟨rfl, _, _, .refl _ _ _, rfl, rfl, LS.inn hj (hB 6 _ rfl) (cellK_ok rfl) (nx_wait (rg := [0, p.w, p.ph, r3, r4, x, 0, 0]) (a := 0) (b := 1) rfl) (by omega)⟩
  · rw [if_neg hx]
    refine AlEnd.pre (M := 10) (N := 10) (g1 := gz j (q + 9) p.w p.ph r3 r4 x) (v1 := p.w) ?_ (hsay (wrap_i64 _ (by omega) (by omega)) (by omega))
    refine h4 (n := 6) ?_
    refine st (o' := 5) rfl c6 (nx_equal' (rg := [0, p.w, p.ph, r3, r4, x, 0, 0]) (a := 2) (b := 5) hx) rfl (by decide) ?_
    refine st (o' := 9) rfl c9 (by show ((⟨((q : Int) + 9).toNat, [0, p.w, p.ph, r3, r4, x, 0, 0], false⟩ : ThZ), [p.w], EffW.no) = _; rw [t9]) rfl (by decide) ?_
    exact .refl _ _ _

end
end Go.Mac
