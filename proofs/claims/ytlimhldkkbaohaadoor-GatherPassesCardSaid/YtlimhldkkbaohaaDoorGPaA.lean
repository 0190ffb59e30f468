/- Texts that belong together; the first of them: Whoever only passes: words, and what a step of one comes to. -/
import Derived.Test.YtlimhldkkbaohaaDoorGLnA
import Derived.Test.YtlimhldkkbaohaaDoorGGcB2
import Derived.Test.YtlimhldkkbaohaaDoorGJudgeR
import Derived.Test.YtlimhldkkbaohaaDoorQRepeat

/- Whoever only passes: words, and what a step of one comes to. -/
section
open Go Go.Proofs Go.Mac
set_option maxRecDepth 100000
namespace Go.Mac

theorem LS.uniq {nc : Nat} {bl : List (List InsZ)} {g g' g2 : GZ} {ws ws' ws2 : List Int} {e e2 : EffW} (h1 : LS nc bl g ws g' ws' e) (h2 : LS nc bl g ws g2 ws2 e2) : g2 = g' ∧ ws2 = ws' ∧ e2 = e := by
  obtain ⟨i, y, a1, _, a3, rfl⟩ := h1
  obtain ⟨i', y', b1, _, b3, rfl⟩ := h2
  rw [a1] at b1
  obtain rfl := Option.some.inj b1
  rw [a3] at b3
  cases b3
  exact ⟨rfl, rfl, rfl⟩

/-! ### Words -/

/-- A phase, so many parties, so many of whom are to arrive. -/
def wd (φ n κ : Nat) : Int := κ + n * 65536 + ((φ % 2147483648 : Nat) : Int) * 4294967296
def φZ (φ : Nat) : Int := ((φ % 2147483648 : Nat) : Int)

theorem φZ_ne (φ : Nat) : φZ (φ + 1) ≠ φZ φ := by unfold φZ; omega

section
variable {φ n κ : Nat} (hn : 1 ≤ n ∧ n ≤ 16) (hκ : κ ≤ n)
include hn hκ

theorem wd_parts : wd φ n κ / 4294967296 = φZ φ ∧ wd φ n κ / 65536 = n + φZ φ * 65536 ∧ wd φ n κ % 65536 = κ := by
  unfold wd φZ
  omega

theorem wd_rw : RW (wd φ n κ) := by
  obtain ⟨e1, e2, e3⟩ := wd_parts (φ := φ) hn hκ
  refine ⟨by unfold wd; omega, by unfold wd; omega, ?_⟩
  rw [e2, e3]
  unfold φZ
  omega

theorem wd_ph : phZ (wd φ n κ) = φZ φ := by
  obtain ⟨e1, e2, e3⟩ := wd_parts (φ := φ) hn hκ
  unfold phZ
  rw [e1]
  unfold φZ
  omega

theorem wd_wPh : wPh (wd φ n κ) = ⟨false, φZ φ, n, κ⟩ := by
  obtain ⟨e1, e2, e3⟩ := wd_parts (φ := φ) hn hκ
  have hr := wd_rw (φ := φ) hn hκ
  refine wPh_eq (decide_eq_false (by have := hr.2.1; omega)) (wd_ph hn hκ) ?_ e3
  rw [e2]
  unfold φZ
  omega

end

theorem wPh_inj {x y : Int} (hx : RV x) (hy : RV y) (h : wPh x = wPh y) : x = y := by
  have split : ∀ {x : Int}, RV x → x = x % 65536 + (x / 65536 % 65536) * 65536 + (x / 4294967296 % 2147483648) * 4294967296 + if 9223372036854775808 ≤ x then 9223372036854775808 else 0 := by
    intro x hx
    have h1 := hx.1
    have h2 := hx.2.1
    have d : x / 4294967296 = x / 65536 / 65536 := by omega
    have d2 : x / 4294967296 < 4294967296 := by omega
    split <;> omega
  have h1 : gO x = gO y := congrArg Ph.o h
  have h2 : x / 4294967296 % 2147483648 = y / 4294967296 % 2147483648 := congrArg Ph.ph h
  have h3 : x / 65536 % 65536 = y / 65536 % 65536 := congrArg Ph.pa h
  have h4 : x % 65536 = y % 65536 := congrArg Ph.wa h
  have h5 : (9223372036854775808 ≤ x) ↔ (9223372036854775808 ≤ y) := by
    have : decide (9223372036854775808 ≤ x) = decide (9223372036854775808 ≤ y) := h1
    exact decide_eq_decide.1 this
  rw [split hx, split hy, h2, h3, h4]
  by_cases hb : 9223372036854775808 ≤ x
  · rw [if_pos hb, if_pos (h5.1 hb)]
  · rw [if_neg hb, if_neg fun h => hb (h5.2 h)]

abbrev passC : CallZ := ⟨9, 0⟩

theorem ph_arr {φ n κ : Nat} (hn : 1 ≤ n ∧ n ≤ 16) (hκ : 1 ≤ κ ∧ κ ≤ n) : phDo ⟨false, φZ φ, n, κ⟩ 7 0 = some (if κ = 1 then ⟨false, φZ (φ + 1), n, n⟩ else ⟨false, φZ φ, n, ((κ - 1 : Nat) : Int)⟩, φZ φ) := by
  have h3 := wPh_right (wd_rw (φ := φ) hn hκ.2).rv
  rw [wd_wPh hn hκ.2] at h3
  have e : (φZ φ + 1) % 2147483648 = φZ (φ + 1) := by unfold φZ; omega
  rw [phDo, if_neg (fun h => (by
    rcases h with h | h | h
    · rw [h3] at h; cases h
    · exact absurd h (by decide)
    · exact absurd h (by decide))), if_neg (show ¬ false = true from Bool.false_ne_true), if_neg (by decide), if_neg (by decide), if_neg (by decide), if_neg (show ¬ (κ : Int) = 0 by omega)]
  by_cases h1 : κ = 1
  · rw [if_pos h1, if_neg (show ¬ (κ : Int) - 1 > 0 by omega)]
    simp only [show ¬ (7 : Int) = 8 by decide, if_false]
    rw [if_neg (show ¬ (n : Int) = 0 by omega), e]
  · rw [if_neg h1, if_pos (show (κ : Int) - 1 > 0 by omega)]
    simp only [show ¬ (7 : Int) = 8 by decide, if_false]
    rw [show (κ : Int) - 1 = ((κ - 1 : Nat) : Int) by omega]

/-- What comes of one who arrives. -/
theorem pa_eff {φ n κ : Nat} (hn : 1 ≤ n ∧ n ≤ 16) (hκ : 1 ≤ κ ∧ κ ≤ n) {y m : Int} (hy : RV y) (he : EffA passC (wd φ n κ) y m) : m = φZ φ ∧ y = if κ = 1 then wd (φ + 1) n n else wd φ n (κ - 1) := by
  have he : phDo (wPh (wd φ n κ)) 7 0 = some (wPh y, m) := he
  rw [wd_wPh hn hκ.2, ph_arr hn hκ] at he
  obtain ⟨h1, h2⟩ := Prod.mk.inj (Option.some.inj he)
  refine ⟨h2.symm, ?_⟩
  split at h1
  · rename_i hk
    rw [if_pos hk]
    exact wPh_inj hy (wd_rw hn (Nat.le_refl _)).rv (h1.symm.trans (wd_wPh hn (Nat.le_refl _)).symm)
  · rename_i hk
    rw [if_neg hk]
    exact wPh_inj hy (wd_rw hn (by omega)).rv (h1.symm.trans (wd_wPh hn (by omega)).symm)

theorem pa_same {φ n κ : Nat} (hn : 1 ≤ n ∧ n ≤ 16) (hκ : 1 ≤ κ ∧ κ ≤ n) {m : Int} (he : EffA passC (wd φ n κ) (wd φ n κ) m) : False := by
  obtain ⟨_, h⟩ := pa_eff hn hκ (wd_rw hn hκ.2).rv he
  split at h
  · have h2 := congrArg phZ h
    rw [wd_ph hn hκ.2, wd_ph hn (Nat.le_refl _)] at h2
    exact φZ_ne φ h2.symm
  · unfold wd at h
    omega

theorem gfit10 {x : Int} (h : 0 ≤ x ∧ x < 2147483648) : gFitB 10 x = true := show decide (0 ≤ x ∧ x < 2147483648) = true from decide_eq_true h

theorem pa_lat {φ ψ n κ : Nat} (hn : 1 ≤ n ∧ n ≤ 16) (hκ : κ ≤ n) {m : Int} (hl : Lat (φZ φ) (wd ψ n κ) m) (hm : m ≠ -4) : m = φZ ψ ∧ φZ ψ ≠ φZ φ := by
  have h3 := wPh_right (wd_rw (φ := ψ) hn hκ).rv
  have e : (if φZ φ > 0 then φZ φ else 0) = φZ φ := by unfold φZ; split <;> omega
  have hb : 0 ≤ φZ φ ∧ φZ φ < 2147483648 := by unfold φZ; omega
  have h1 : gFitB 10 (φZ φ) = true := gfit10 hb
  rw [Lat, e, phDo, if_neg (fun h => (by
    rcases h with h | h | h
    · rw [h3] at h; cases h
    · rw [h1] at h; cases h
    · exact absurd h (by decide))), wd_wPh hn hκ, if_neg (show ¬ false = true from Bool.false_ne_true), if_neg (by decide), if_pos rfl] at hl
  by_cases hp : φZ ψ = φZ φ
  · rw [if_pos hp] at hl
    exact absurd (Prod.mk.inj (Option.some.inj hl)).2.symm hm
  · rw [if_neg hp] at hl
    exact ⟨(Prod.mk.inj (Option.some.inj hl)).2.symm, hp⟩

/-! ### Places -/

theorem pass_get {R j : Nat} {c : CallZ} (h : (List.replicate R passC)[j]? = some c) : c = passC := by
  rw [List.getElem?_replicate] at h
  split at h
  · exact (Option.some.inj h).symm
  · cases h

theorem insG_at {l : List CallZ} {j : Nat} {c : CallZ} (hb : l[j]? = some c) (y : ThZ) : insG (l.map bodyG) ⟨j, y⟩ = (bodyG c)[y.pc]? := by
  rw [insG]
  simp only [List.getElem?_map, hb, Option.map_some]

theorem op_14 : ∀ o, o < 39 → ((bodyG passC)[o]?.map (·.op)) = some 14 → o = 35 := by decide
theorem op_9 : ∀ o, o < 39 → ((bodyG passC)[o]?.map (·.op)) = some 9 → o = 18 := by decide
theorem op_w : ∀ o, o < 39 → (o = 19 ∨ o = 20 ∨ o = 21 ∨ o = 23) → ((bodyG passC)[o]?.map (·.op)) = some 11 ∨ ((bodyG passC)[o]?.map (·.op)) = some 5 ∨ ((bodyG passC)[o]?.map (·.op)) = some 15 := by decide

theorem next_act {i : InsZ} {x y : ThZ} {ws ws' : List Int} {o : Int} {c : Nat} {a b : Int} (hn : nextW i x ws = (y, ws', .act o c a b)) : i.op ≠ 11 ∧ i.op ≠ 5 ∧ i.op ≠ 15 ∧ (o = 9 → i.op = 9 ∨ (i.op ≠ 6 ∧ i.op ≠ 8 ∧ i.op ≠ 9 ∧ i.op ≠ 14 ∧ i.op ≠ 16 ∧ i.op ≠ 15)) := by
  rw [nextW] at hn
  split at hn
  · cases hn
  · rename_i hloc
    have h11 : i.op ≠ 11 := fun h => by rw [localZ] at hloc; simp [h] at hloc
    have h5 : i.op ≠ 5 := fun h => by rw [localZ] at hloc; simp [h] at hloc
    repeat' split at hn
    all_goals first
      | (cases hn; done)
      | (cases hn; refine ⟨h11, h5, by omega, fun h => by first | omega | (left; assumption) | (right; refine ⟨by assumption, by assumption, by assumption, by assumption, by assumption, by assumption⟩)⟩)

theorem next_sleep {i : InsZ} {x y : ThZ} {ws ws' : List Int} {c : Nat} (hn : nextW i x ws = (y, ws', .sleep c)) : i.op = 14 ∧ rgZ ws i.a = rgZ x.rg i.b := by
  rw [nextW] at hn
  split at hn
  · cases hn
  · repeat' split at hn
    all_goals first
      | (cases hn; done)
      | (rename_i h14 _; refine ⟨by assumption, ?_⟩; first | assumption | (have h3 := (Prod.mk.inj (Prod.mk.inj hn).2).2; split at h3 <;> first | assumption | cases h3))
      | (refine ⟨by assumption, ?_⟩; have h3 := (Prod.mk.inj (Prod.mk.inj hn).2).2; split at h3 <;> first | assumption | cases h3)

end Go.Mac
end

/- Whoever only passes: where one sleeps, and where one lets the next phase begin. -/
section
open Go Go.Proofs Go.Mac
set_option maxRecDepth 100000
namespace Go.Mac

section
variable {l : List CallZ} {g g' : GZ} {v v' : Int} {e : EffW} {q : LkQ}

theorem insG_pass (hb : l[g.j]? = some passC) : insG (l.map bodyG) g = (bodyG passC)[g.y.pc]? := insG_at (j := g.j) hb g.y

theorem at_op {o : Nat} {i : InsZ} (h : (bodyG passC)[o]? = some i) : o < 39 ∧ ((bodyG passC)[o]?.map (·.op)) = some i.op := by
  refine ⟨(List.getElem?_eq_some_iff.1 h).1, ?_⟩
  rw [h]
  rfl

/-- Who is about to wake does no act. -/
theorem pend_act (hb : l[g.j]? = some passC) (hw : gwG l g = true) (hl : LS 1 (l.map bodyG) g [v] g' [v'] e) : ∀ o c x y, e ≠ .act o c x y := by
  rintro o c x y rfl
  obtain ⟨i, y', h1, _, h3, _⟩ := hl
  rw [insG_pass hb] at h1
  obtain ⟨n1, n2, n3, _⟩ := next_act h3
  obtain ⟨a1, a2⟩ := at_op h1
  rw [gwG, hb] at hw
  have hw : (decide (g.y.pc ≤ 28) && arrW g.y.pc (rgZ g.y.rg 2) (rgZ g.y.rg 3)) = true := hw
  rw [Bool.and_eq_true] at hw
  have hw := hw.2
  have hp : g.y.pc = 19 ∨ g.y.pc = 20 ∨ g.y.pc = 21 ∨ g.y.pc = 23 := by
    unfold arrW at hw
    simp only [Bool.or_eq_true, Bool.and_eq_true, beq_iff_eq] at hw
    omega
  have := op_w _ a1 hp
  rw [a2] at this
  rcases this with h | h | h <;> (have := Option.some.inj h; omega)

theorem sleep_at {k : Nat} (hb : l[g.j]? = some passC) (hq : QG l g q) (hl : LS 1 (l.map bodyG) g [v] g' [v'] (.sleep k)) : ∃ a b r5, q = .q3 a b ∧ EffA passC a.x a.y r5 ∧ b.x = v ∧ phZ v = r5 := by
  obtain ⟨i, y', h1, _, h3, _⟩ := hl
  rw [insG_pass hb] at h1
  obtain ⟨n1, n2⟩ := next_sleep h3
  obtain ⟨a1, a2⟩ := at_op h1
  rw [n1] at a2
  have hpc := op_14 _ a1 a2
  obtain ⟨r1, r2, r3, r4, r5, hrg, hcase⟩ := hq
  rcases hcase with ⟨h, _⟩ | ⟨_, c, hc, hg⟩
  · have := (List.getElem?_eq_some_iff.1 hb).1
    omega
  rw [hb] at hc
  obtain rfl := Option.some.inj hc
  have hg : (g.y.pc ≤ 28 ∧ arrQ (-1) passC g.y.pc r1 r2 r3 r4 r5 q) ∨ (29 ≤ g.y.pc ∧ awQ passC (g.y.pc - 29) r1 r2 r5 q) := hg
  rw [hpc] at hg h1
  rcases hg with ⟨h, _⟩ | ⟨_, hg⟩
  · omega
  have hi : i = ⟨14, 0, 1, 0, 0⟩ := (Option.some.inj h1).symm
  subst hi
  rw [hrg] at n2
  have n2 : v = r1 := n2
  subst n2
  obtain ⟨_, ⟨_, h9 | h10⟩, hph⟩ := (hg : RW v ∧ aw1 passC v r5 q ∧ phZ v = r5)
  · obtain ⟨_, h9⟩ := h9
    cases q with
    | q3 a b => exact ⟨a, b, r5, rfl, h9.1, h9.2.1, hph⟩
    | _ => exact h9.elim
  · exact absurd h10.1 (by decide)

theorem swap_at (hb : l[g.j]? = some passC) (hq : QG l g q) (hne : v ≠ v') (hl : LS 1 (l.map bodyG) g [v] g' [v'] (.act 9 0 v v')) (hp : phZ v' ≠ phZ v) : gwG l g' = true := by
  have hl0 := hl
  obtain ⟨i, y', h1, _, h3, hnorm⟩ := hl
  rw [insG_pass hb] at h1
  obtain ⟨_, _, _, n4⟩ := next_act h3
  obtain ⟨a1, a2⟩ := at_op h1
  have hin : ∀ o, o < 39 → ((bodyG passC)[o]?.map (·.op)) = some 6 ∨ ((bodyG passC)[o]?.map (·.op)) = some 5 ∨ ((bodyG passC)[o]?.map (·.op)) = some 11 ∨ ((bodyG passC)[o]?.map (·.op)) = some 3 ∨ ((bodyG passC)[o]?.map (·.op)) = some 4 ∨ ((bodyG passC)[o]?.map (·.op)) = some 10 ∨ ((bodyG passC)[o]?.map (·.op)) = some 9 ∨ ((bodyG passC)[o]?.map (·.op)) = some 15 ∨ ((bodyG passC)[o]?.map (·.op)) = some 1 ∨ ((bodyG passC)[o]?.map (·.op)) = some 13 ∨ ((bodyG passC)[o]?.map (·.op)) = some 14 ∨ ((bodyG passC)[o]?.map (·.op)) = some 16 := by decide
  have h9 : i.op = 9 := by
    rcases n4 rfl with h | ⟨k1, k2, k3, k4, k5, k6⟩
    · exact h
    · exfalso
      rw [nextW] at h3
      have := hin _ a1
      rw [a2] at this
      obtain ⟨op, a, b, c, d⟩ := i
      dsimp only at k1 k2 k3 k4 k5 k6 this
      simp only [Option.some.injEq] at this
      rcases this with rfl | rfl | rfl | rfl | rfl | rfl | rfl | rfl | rfl | rfl | rfl | rfl <;> first | exact absurd rfl k1 | exact absurd rfl k3 | exact absurd rfl k4 | exact absurd rfl k5 | exact absurd rfl k6 | (simp [localZ] at h3) 
  rw [h9] at a2
  have hpc := op_9 _ a1 a2
  obtain ⟨r1, r2, r3, r4, r5, hrg, hcase⟩ := hq
  rcases hcase with ⟨h, _⟩ | ⟨hdn, c, hc, hg⟩
  · have := (List.getElem?_eq_some_iff.1 hb).1
    omega
  rw [hb] at hc
  obtain rfl := Option.some.inj hc
  have hg : (g.y.pc ≤ 28 ∧ arrQ (-1) passC g.y.pc r1 r2 r3 r4 r5 q) ∨ (29 ≤ g.y.pc ∧ awQ passC (g.y.pc - 29) r1 r2 r5 q) := hg
  rw [hpc] at hg h1
  have hg : arrQ (-1) passC 18 r1 r2 r3 r4 r5 q := by
    rcases hg with ⟨_, hg⟩ | ⟨h, _⟩
    · exact hg
    · omega
  have hi : i = ⟨9, 3, 0, 1, 4⟩ := (Option.some.inj h1).symm
  subst hi
  obtain ⟨hr, _, h4, _, _, h2⟩ := (hg : RW r1 ∧ qLk q r1 ∧ RV r4 ∧ r1 ≠ r4 ∧ EffA passC r1 r4 (phZ r1) ∧ (9223372036854775808 ≤ r4 ∨ phZ r4 ≠ phZ r1 → r2 = 1))
  obtain ⟨j, o, rg, dn⟩ := g
  dsimp only at hpc hrg hdn hb h3 hnorm
  subst hpc hrg hdn
  by_cases hv : v = r1
  · subst hv
    rw [nx_swap (show rgZ [v] 0 = rgZ [0, v, r2, r3, r4, r5, 0, 0] 1 from rfl)] at h3
    have e1 := (Prod.mk.inj h3).1
    have e2 := (Prod.mk.inj (Prod.mk.inj h3).2).1
    have hv' : r4 = v' := (List.cons.inj e2).1
    subst hv'
    have := h2 (.inr hp)
    subst this
    subst e1
    rw [← hnorm]
    have hn : normG (l.map bodyG) ⟨j, ⟨19, [0, v, 1, 1, r4, r5, 0, 0], false⟩⟩ = ⟨j, ⟨19, [0, v, 1, 1, r4, r5, 0, 0], false⟩⟩ := by
      rw [normG]
      simp only [List.getElem?_map, hb, Option.map_some]
      exact if_neg (by show ¬ 19 = 39; decide)
    rw [show (normG (l.map bodyG) ⟨j, ⟨18 + 1, rgS [0, v, 1, r3, r4, r5, 0, 0] 3 1, false⟩⟩) = ⟨j, ⟨19, [0, v, 1, 1, r4, r5, 0, 0], false⟩⟩ from hn]
    rw [gw_at hb]
    rfl
  · exfalso
    rw [nx_swap' (show ¬ rgZ [v] 0 = rgZ [0, r1, r2, r3, r4, r5, 0, 0] 1 from hv)] at h3
    have e2 := (Prod.mk.inj (Prod.mk.inj h3).2).1
    exact hne (List.cons.inj e2).1

end
end Go.Mac
end

/- What is said of acts and events, step by step; and a judge's run. -/
section
open Go Go.Proofs Go.Mac
set_option maxRecDepth 100000
namespace Go.Mac

/-! ### A judge's run -/

def rS : List EvZ → List Int → List Int → Option (List Int × List Int)
  | [], c, g => some (c, g)
  | e :: l, c, g => if (oneZ e c g).1 = 0 then rS l (oneZ e c g).2.1 (oneZ e c g).2.2 else none

theorem rS_snoc : ∀ {l : List EvZ} {c g : List Int} {r : List Int × List Int} {e : EvZ}, rS l c g = some r → (oneZ e r.1 r.2).1 = 0 → rS (l ++ [e]) c g = some (oneZ e r.1 r.2).2
  | [], c, g, r, e, h, h1 => by
    obtain rfl := Option.some.inj h
    show (if (oneZ e c g).1 = 0 then _ else _) = _
    rw [if_pos h1]
    rfl
  | x :: l, c, g, r, e, h, h1 => by
    rw [rS] at h
    split at h
    · rename_i h0
      rw [List.cons_append, rS, if_pos h0]
      exact rS_snoc h h1
    · cases h

theorem rS_run : ∀ {l : List EvZ} {c g : List Int} {r : List Int × List Int} (i : Nat), rS l c g = some r → runZ l i c g = none
  | [], _, _, _, _, _ => rfl
  | x :: l, c, g, r, i, h => by
    rw [rS] at h
    split at h
    · rename_i h0
      rw [runZ, if_pos h0]
      exact rS_run (i + 1) h
    · cases h

theorem one_gone {e : EvZ} {c g : List Int} (h : (oneZ e c g).1 = 0) : (oneZ e c g).2.2 = goneStep g e := by
  unfold oneZ at h ⊢
  unfold goneStep
  split
  · rename_i h1; rw [if_pos h1] at h; cases h
  rename_i h1
  rw [if_neg h1] at h
  split
  · rename_i h2; rw [if_pos h2] at h; cases h
  rename_i h2
  rw [if_neg h2] at h
  by_cases ha : e.a = 1
  · rw [if_pos ha] at h ⊢
    rw [if_neg (show ¬ e.a = 2 by omega)]
    split <;> rfl
  · rw [if_neg ha] at h ⊢
    rw [if_pos (show e.a = 2 by omega)]
    split
    · rename_i h3; rw [if_pos h3] at h; cases h
    rename_i h3
    rw [if_neg h3] at h
    split
    · rename_i h4; rw [if_pos h4] at h; cases h
    · rfl

theorem rS_gone : ∀ {l : List EvZ} {c g : List Int} {r : List Int × List Int}, rS l c g = some r → l.foldl goneStep g = r.2
  | [], _, _, _, h => by obtain rfl := Option.some.inj h; rfl
  | x :: l, c, g, r, h => by
    rw [rS] at h
    split at h
    · rename_i h0
      rw [List.foldl_cons, ← one_gone h0]
      exact rS_gone h
    · cases h

/-- Somebody comes. -/
theorem one_came {n t : Nat} {c g : List Int} (hc : c.length = n) (ht : t < n) (h : c.getD t 0 = g.getD t 0) : oneZ ⟨0, 1, (t : Int), c.getD t 0 + 1⟩ c g = (0, c.set t (c.getD t 0 + 1), g) := by
  unfold oneZ
  dsimp only
  rw [if_neg (by omega), if_neg (by rw [hc]; omega), if_pos rfl, Int.toNat_natCast, if_neg (fun h2 => h2.elim (fun h1 => h1 h) fun h1 => h1 rfl)]

/-- Somebody goes. -/
theorem one_goes {n t : Nat} {c g : List Int} (hc : c.length = n) (ht : t < n) (h : c.getD t 0 = g.getD t 0 + 1) (ha : ∀ u, u < n → c.getD t 0 ≤ c.getD u 0) : oneZ ⟨0, 2, (t : Int), g.getD t 0 + 1⟩ c g = (0, c, g.set t (g.getD t 0 + 1)) := by
  unfold oneZ
  dsimp only
  rw [if_neg (by omega), if_neg (by rw [hc]; omega), if_neg (by decide), Int.toNat_natCast, if_neg (by omega), if_neg]
  rw [List.any_eq_true]
  rintro ⟨x, hx, hlt⟩
  obtain ⟨u, hu⟩ := List.mem_iff_getElem?.1 hx
  have hul := (List.getElem?_eq_some_iff.1 hu).1
  have := ha u (by omega)
  rw [List.getD_eq_getElem?_getD (l := c) (i := u), hu] at this
  have hlt := of_decide_eq_true hlt
  have : c.getD t 0 ≤ x := this
  omega

/-! ### What is said -/

def chA (a : ActZ) : Bool := decide (a.o = 9 ∧ a.x ≠ a.y)
/-- How often a thread was told, up to a step. -/
def cntE (el : List EvZ) (t s : Int) : Int := ((el.filter fun e => decide (e.t = t ∧ e.w ≤ s)).length : Int)
def sdA (el : List EvZ) (s : Int) (a : ActZ) : EvZ := ⟨0, 1, a.t, cntE el a.t s + 1⟩
def sdE (el : List EvZ) (s : Int) (e : EvZ) : EvZ := ⟨0, 2, e.t, cntE el e.t s + 1⟩
def sdK (al : List ActZ) (el : List EvZ) : Nat → List EvZ
  | 0 => []
  | s + 1 => sdK al el s ++ (al.filter fun a => decide (a.w = ((s + 1 : Nat) : Int)) && chA a).map (sdA el s) ++ (el.filter fun e => decide (e.w = ((s + 1 : Nat) : Int))).map (sdE el s)

theorem cntE_app {el ee : List EvZ} {t s : Int} (h : ∀ e ∈ ee, s < e.w) : cntE (el ++ ee) t s = cntE el t s := by
  have : (ee.filter fun e => decide (e.t = t ∧ e.w ≤ s)) = [] := by
    rw [List.filter_eq_nil_iff]
    intro e he
    have := h e he
    simp only [decide_eq_true_eq]
    omega
  rw [cntE, cntE, List.filter_append, this, List.append_nil]

theorem cntE_end {el : List EvZ} {t : Nat} {s : Int} (h : ∀ e ∈ el, e.w ≤ s) : cntE el t s = ((endT t el).length : Int) := by
  rw [cntE, endT, List.length_map]
  congr 2
  refine List.filter_congr fun e he => ?_
  have := h e he
  rw [Bool.eq_iff_iff]
  simp only [decide_eq_true_eq, beq_iff_eq]
  exact ⟨fun h => h.1, fun h => ⟨h, this⟩⟩

theorem sdK_app {al ae : List ActZ} {el ee : List EvZ} : ∀ {s : Nat}, (∀ a ∈ ae, (s : Int) < a.w) → (∀ e ∈ ee, (s : Int) < e.w) → sdK (al ++ ae) (el ++ ee) s = sdK al el s
  | 0, _, _ => rfl
  | s + 1, h1, h2 => by
    have e1 : (ae.filter fun a => decide (a.w = ((s + 1 : Nat) : Int)) && chA a) = [] := by
      rw [List.filter_eq_nil_iff]
      intro a ha
      have := h1 a ha
      simp only [Bool.and_eq_true, decide_eq_true_eq]
      omega
    have e2 : (ee.filter fun e => decide (e.w = ((s + 1 : Nat) : Int))) = [] := by
      rw [List.filter_eq_nil_iff]
      intro a ha
      have := h2 a ha
      simp only [decide_eq_true_eq]
      omega
    have hee : ∀ e ∈ ee, (s : Int) < e.w := fun e he => by have := h2 e he; omega
    rw [sdK, sdK, sdK_app (fun a ha => by have := h1 a ha; omega) hee, List.filter_append, e1, List.append_nil, List.filter_append, e2, List.append_nil]
    congr 2
    · refine List.map_congr_left fun a _ => ?_
      rw [sdA, sdA, cntE_app hee]
    · refine funext fun a => ?_
      rw [sdE, sdE, cntE_app hee]

/-- A step more. -/
theorem sdK_next {al ae : List ActZ} {el ee : List EvZ} {k : Nat} (ha : ∀ a ∈ al, a.w ≤ k) (he : ∀ e ∈ el, e.w ≤ k) (hae : ∀ a ∈ ae, a.w = ((k + 1 : Nat) : Int)) (hee : ∀ e ∈ ee, e.w = ((k + 1 : Nat) : Int)) :
    sdK (al ++ ae) (el ++ ee) (k + 1) = sdK al el k ++ (ae.filter chA).map (sdA el k) ++ ee.map (sdE el k) := by
  have e1 : (al.filter fun a => decide (a.w = ((k + 1 : Nat) : Int)) && chA a) = [] := by
    rw [List.filter_eq_nil_iff]
    intro a h
    have := ha a h
    simp only [Bool.and_eq_true, decide_eq_true_eq]
    omega
  have e2 : (el.filter fun e => decide (e.w = ((k + 1 : Nat) : Int))) = [] := by
    rw [List.filter_eq_nil_iff]
    intro a h
    have := he a h
    simp only [decide_eq_true_eq]
    omega
  have e3 : (ae.filter fun a => decide (a.w = ((k + 1 : Nat) : Int)) && chA a) = ae.filter chA := by
    refine List.filter_congr fun a h => ?_
    rw [decide_eq_true (hae a h), Bool.true_and]
  have e4 : (ee.filter fun e => decide (e.w = ((k + 1 : Nat) : Int))) = ee := by
    rw [List.filter_eq_self]
    intro a h
    exact decide_eq_true (hee a h)
  have hlt : ∀ e ∈ ee, (k : Int) < e.w := fun e h => by have := hee e h; omega
  rw [sdK, sdK_app (fun a h => by have := hae a h; omega) hlt, List.filter_append, e1, List.nil_append, e3, List.filter_append, e2, List.nil_append, e4]
  congr 2
  · refine List.map_congr_left fun a _ => ?_
    rw [sdA, sdA, cntE_app hlt]
  · refine funext fun a => ?_
    rw [sdE, sdE, cntE_app hlt]

end Go.Mac
end

/- Whoever only passes: what holds behind any steps. -/
section
open Go Go.Proofs Go.Mac
set_option maxRecDepth 100000
namespace Go.Mac

abbrev pasL (R : Nat) : List CallZ := List.replicate R passC
abbrev qq (gs : Nat → GZ) (m : MZ) (t : Nat) : LkQ := lkOf m.al (endT t m.el) t (gs t).j
def arrB (q : LkQ) : Bool := q.chg.isSome
def pc1 (gs : Nat → GZ) (m : MZ) (ρ t : Nat) : Nat := if arrB (qq gs m t) = true ∧ (gs t).j = ρ then 1 else 0

def PaT (P0 n ρ j : Nat) : LkQ → Prop
  | .q0 => j = ρ
  | .q1 a => j = ρ ∧ a.x = a.y ∧ ∃ σ κ, 1 ≤ κ ∧ κ ≤ n ∧ a.x = wd (P0 + σ) n κ
  | .q2 a => (j = ρ ∨ j + 1 = ρ) ∧ ∃ κ, 1 ≤ κ ∧ κ ≤ n ∧ a.x = wd (P0 + j) n κ
  | .q3 a b => (j = ρ ∨ j + 1 = ρ) ∧ (∃ κ, 1 ≤ κ ∧ κ ≤ n ∧ a.x = wd (P0 + j) n κ) ∧ ∃ σ κ, j ≤ σ ∧ σ ≤ ρ ∧ 1 ≤ κ ∧ κ ≤ n ∧ b.x = wd (P0 + σ) n κ

theorem PaT.two {P0 n ρ j : Nat} {q : LkQ} (h : PaT P0 n ρ j q) : j = ρ ∨ j + 1 = ρ := by
  cases q with
  | q0 => exact .inl h
  | q1 a => exact .inl h.1
  | q2 a => exact h.1
  | q3 a b => exact h.1

theorem PaT.no {P0 n ρ j : Nat} {q : LkQ} (h : PaT P0 n ρ j q) (hq : q.chg = none) : j = ρ := by
  cases q with
  | q0 => exact h
  | q1 a => exact h.1
  | q2 a => cases hq
  | q3 a b => cases hq

theorem PaT.next {P0 n ρ j : Nat} {q : LkQ} (h : PaT P0 n ρ j q) (ha : arrB q = true) (hj : j = ρ) : PaT P0 n (ρ + 1) j q := by
  subst hj
  cases q with
  | q0 => cases ha
  | q1 a => cases ha
  | q2 a => exact ⟨.inr rfl, h.2⟩
  | q3 a b =>
    obtain ⟨_, h2, σ, κ, h3, h4, h5⟩ := h
    exact ⟨.inr rfl, h2, σ, κ, h3, by omega, h5⟩

structure PaJ (B P0 n R ρ : Nat) (gs : Nat → GZ) (v : Int) (m : MZ) : Prop where
  gc : GcJ B n (fun _ => pasL R) gs v m
  ln : LnJ n (fun _ => pasL R) (wd P0 n n) gs v m
  hn : 1 ≤ n ∧ n ≤ 8
  th : ∀ t, t < n → PaT P0 n ρ (gs t).j (qq gs m t)
  cn : rsum n (pc1 gs m ρ) < n ∧ v = wd (P0 + ρ) n (n - rsum n (pc1 gs m ρ))
  jn : ∀ s ∈ m.ss, (gs s.t.toNat).j = ρ ∨ ∃ u, u < n ∧ gwG (pasL R) (gs u) = true
  ia : Inc m.al
  ie : m.el.Pairwise (fun a b => a.w < b.w)
  at' : ∀ a ∈ m.al, 1 ≤ a.w ∧ 0 ≤ a.t ∧ a.t < n
  ev : ∀ (i : Nat) (e : EvZ), m.el[i]? = some e → 1 ≤ e.w ∧ ∃ t : Nat, e.t = t ∧ t < n ∧ e.v = φZ (P0 + (endT t (m.el.take i)).length + 1)
  sd : ∃ c g, rS (sdK m.al m.el m.k) (noughts n) (noughts n) = some (c, g) ∧ c.length = n ∧ g.length = n ∧ ∀ t, t < n → g.getD t 0 = ((gs t).j : Int) ∧ c.getD t 0 = ((gs t).j : Int) + (if arrB (qq gs m t) = true then 1 else 0)
  sv : ∀ e ∈ sdK m.al m.el m.k, e.v ≤ R

theorem rsum_cong {n : Nat} {f g : Nat → Nat} (h : ∀ s, s < n → f s = g s) : rsum n f = rsum n g := by
  induction n with
  | zero => rfl
  | succ n ih => rw [rsum_succ, rsum_succ, ih fun s hs => h s (by omega), h n (by omega)]

/-- All but one, and that one doesn't: all others do. -/
theorem rsum_rest {n : Nat} {f : Nat → Nat} (h1 : ∀ s, s < n → f s ≤ 1) {t : Nat} (ht : t < n) (h0 : f t = 0) (hs : n ≤ rsum n f + 1) {u : Nat} (hu : u < n) (hut : u ≠ t) : f u = 1 := by
  have hb := h1 u hu
  refine Classical.byContradiction fun hne => ?_
  have hu0 : f u = 0 := by omega
  have a1 := rsum_upd (n := n) (t := t) (g := f) (h := fun s => if s = t then 1 else f s) ht fun s _ hst => by
    show f s ≤ if s = t then 1 else f s
    rw [if_neg hst]
    exact Nat.le_refl _
  try dsimp only at a1
  rw [if_pos rfl, h0] at a1
  have a2 := rsum_upd (n := n) (t := u) (g := fun s => if s = t then 1 else f s) (h := fun _ => 1) hu fun s hs' _ => by
    show (if s = t then 1 else f s) ≤ 1
    split
    · exact Nat.le_refl _
    · exact h1 s hs'
  try dsimp only at a2
  rw [if_neg hut, hu0] at a2
  have a3 := rsum_const n 1 (fun _ => 1) fun _ _ => Nat.le_refl _
  omega

section
variable {B P0 n R ρ : Nat} {gs : Nat → GZ} {v : Int} {m : MZ}

theorem PaJ.jR (h : PaJ B P0 n R ρ gs v m) {t : Nat} (ht : t < n) : (gs t).j ≤ R := by
  have := h.ln.jl t ht
  rwa [List.length_replicate] at this

theorem PaJ.kap (h : PaJ B P0 n R ρ gs v m) : 1 ≤ n - rsum n (pc1 gs m ρ) ∧ n - rsum n (pc1 gs m ρ) ≤ n := by
  have := h.cn.1
  omega

theorem PaJ.n16 (h : PaJ B P0 n R ρ gs v m) : 1 ≤ n ∧ n ≤ 16 := by
  have := h.hn
  omega

theorem jj_same {t : Nat} {g' : GZ} (hj : g'.j = (gs t).j) (s : Nat) : (updG gs t g' s).j = (gs s).j := by
  by_cases hst : s = t
  · subst hst; rw [updG_same, hj]
  · rw [updG_ne _ _ hst]

/-- A step without an act, or a word. -/
theorem PaJ.go0 (h : PaJ B P0 n R ρ gs v m) {t : Nat} {g' : GZ} {m' : MZ} (hG : GcJ B n (fun _ => pasL R) (updG gs t g') v m') (hL : LnJ n (fun _ => pasL R) (wd P0 n n) (updG gs t g') v m') (hal : m'.al = m.al) (hel : m'.el = m.el) (hk : m'.k = m.k + 1) (hj : g'.j = (gs t).j)
    (hjn : ∀ s ∈ m'.ss, (gs s.t.toNat).j = ρ ∨ ∃ u, u < n ∧ gwG (pasL R) (updG gs t g' u) = true) : PaJ B P0 n R ρ (updG gs t g') v m' := by
  have hq : ∀ s, qq (updG gs t g') m' s = qq gs m s := fun s => by rw [qq, qq, hal, hel, jj_same hj]
  have hp : ∀ s, pc1 (updG gs t g') m' ρ s = pc1 gs m ρ s := fun s => by rw [pc1, pc1, hq, jj_same hj]
  have hsd : sdK m'.al m'.el m'.k = sdK m.al m.el m.k := by
    rw [hk, hal, hel]
    have := sdK_next (ae := []) (ee := []) h.ln.al h.ln.el (fun _ h => by cases h) (fun _ h => by cases h)
    rw [List.append_nil, List.append_nil] at this
    rw [this]
    simp
  refine ⟨hG, hL, h.hn, fun s hs => by rw [hq, jj_same hj]; exact h.th s hs, ?_, fun s hs => ?_, by rw [hal]; exact h.ia, by rw [hel]; exact h.ie, by rw [hal]; exact h.at', by rw [hel]; exact h.ev, ?_, by rw [hsd]; exact h.sv⟩
  · rw [rsum_cong (g := pc1 gs m ρ) fun s _ => hp s]
    exact h.cn
  · rw [jj_same hj]; exact hjn s hs
  · rw [hsd]
    obtain ⟨c, g, h1, h2, h3, h4⟩ := h.sd
    exact ⟨c, g, h1, h2, h3, fun t ht => by rw [hq, jj_same hj]; exact h4 t ht⟩

/-- What an act leaves of the others. -/
theorem PaJ.qact (h : PaJ B P0 n R ρ gs v m) {t : Nat} {g' : GZ} {m' : MZ} {a : ActZ} (hal : m'.al = m.al ++ [a]) (hel : m'.el = m.el) (hj : g'.j = (gs t).j) (haw : a.w = ((m.k + 1 : Nat) : Int)) (hat : a.t = (t : Int)) (hac : a.c = 0) {s : Nat} (hs : s < n) :
    qq (updG gs t g') m' s = if s = t then lkStep (qq gs m s) a else qq gs m s := by
  rw [qq, hal, hel, jj_same hj, lkOf_act (h.ln.tol s) haw hac _ (by rw [h.ln.tw s hs]; exact Nat.le_refl _)]
  by_cases hst : s = t
  · subst hst
    rw [if_pos rfl, if_pos ⟨hat, (h.ln.tw s hs).symm⟩]
  · rw [if_neg hst, if_neg fun hh => hst (by have := hh.1; omega)]

theorem inc_snoc {al : List ActZ} {k : Nat} (hI : Inc al) (hk : ∀ a ∈ al, a.w ≤ k) {a : ActZ} (ha : a.w = ((k + 1 : Nat) : Int)) : Inc (al ++ [a]) := by
  refine List.pairwise_append.2 ⟨hI, List.pairwise_singleton .., fun x hx y hy => ?_⟩
  obtain rfl := List.mem_singleton.1 hy
  have := hk x hx
  omega

/-- A look. -/
theorem PaJ.go1 (h : PaJ B P0 n R ρ gs v m) {t : Nat} (ht : t < n) {g' : GZ} {m' : MZ} {a : ActZ} (hG : GcJ B n (fun _ => pasL R) (updG gs t g') v m') (hL : LnJ n (fun _ => pasL R) (wd P0 n n) (updG gs t g') v m') (hal : m'.al = m.al ++ [a]) (hel : m'.el = m.el) (hk : m'.k = m.k + 1) (hj : g'.j = (gs t).j)
    (haw : a.w = ((m.k + 1 : Nat) : Int)) (hat : a.t = (t : Int)) (hac : a.c = 0) (hax : a.x = v) (hay : a.y = v)
    (hjn : ∀ s ∈ m'.ss, (gs s.t.toNat).j = ρ ∨ ∃ u, u < n ∧ gwG (pasL R) (updG gs t g' u) = true) : PaJ B P0 n R ρ (updG gs t g') v m' := by
  have hxy : a.x = a.y := hax.trans hay.symm
  have hq := fun (s : Nat) (hs : s < n) => h.qact (g' := g') (m' := m') hal hel hj haw hat hac hs
  have hb : ∀ s, s < n → arrB (qq (updG gs t g') m' s) = arrB (qq gs m s) := fun s hs => by
    rw [hq s hs]
    split
    · rw [lkStep_same hxy]
      generalize qq gs m s = q
      cases q <;> rfl
    · rfl
  have hp : ∀ s, s < n → pc1 (updG gs t g') m' ρ s = pc1 gs m ρ s := fun s hs => by rw [pc1, pc1, hb s hs, jj_same hj]
  have hsd : sdK m'.al m'.el m'.k = sdK m.al m.el m.k := by
    rw [hk, hal, hel]
    have := sdK_next (ae := [a]) (ee := []) h.ln.al h.ln.el (fun b hb => by obtain rfl := List.mem_singleton.1 hb; exact haw) (fun _ h => by cases h)
    rw [List.append_nil] at this
    rw [this, List.filter_cons, if_neg (by rw [chA]; simp [hxy])]
    simp
  refine ⟨hG, hL, h.hn, fun s hs => ?_, ?_, fun s hs => ?_, by rw [hal]; exact inc_snoc h.ia h.ln.al haw, by rw [hel]; exact h.ie, fun b hb => ?_, by rw [hel]; exact h.ev, ?_, by rw [hsd]; exact h.sv⟩
  · rw [hq s hs, jj_same hj]
    have hT := h.th s hs
    split
    · rw [lkStep_same hxy]
      obtain ⟨c1, c2⟩ := h.cn
      have hw := h.kap
      generalize n - rsum n (pc1 gs m ρ) = κ at c2 hw
      generalize qq gs m s = q at hT
      cases q with
      | q0 => exact ⟨hT, hxy, ρ, κ, hw.1, hw.2, hax.trans c2⟩
      | q1 b => exact ⟨hT.1, hxy, ρ, κ, hw.1, hw.2, hax.trans c2⟩
      | q2 b => exact ⟨hT.1, hT.2, ρ, κ, by have := hT.1; omega, Nat.le_refl _, hw.1, hw.2, hax.trans c2⟩
      | q3 b d => exact ⟨hT.1, hT.2.1, ρ, κ, by have := hT.1; omega, Nat.le_refl _, hw.1, hw.2, hax.trans c2⟩
    · exact hT
  · rw [rsum_cong (g := pc1 gs m ρ) hp]
    exact h.cn
  · rw [jj_same hj]; exact hjn s hs
  · rw [hal] at hb
    rcases List.mem_append.1 hb with hb | hb
    · exact h.at' b hb
    · obtain rfl := List.mem_singleton.1 hb
      omega
  · rw [hsd]
    obtain ⟨c, g, h1, h2, h3, h4⟩ := h.sd
    exact ⟨c, g, h1, h2, h3, fun t ht => by rw [hb t ht, jj_same hj]; exact h4 t ht⟩

end
end Go.Mac
end

/- Whoever only passes: who arrives, and who is told. -/
section
open Go Go.Proofs Go.Mac
set_option maxRecDepth 100000
namespace Go.Mac

theorem PaT.low {P0 n ρ j : Nat} {q : LkQ} (h : PaT P0 n ρ j q) : (ρ : Int) ≤ (j : Int) + (if arrB q = true then 1 else 0) := by
  cases q with
  | q0 => have h : j = ρ := h; subst h; simp [arrB, LkQ.chg]
  | q1 a => have h := h.1; subst h; simp [arrB, LkQ.chg]
  | q2 a =>
    have h := h.1
    show (ρ : Int) ≤ (j : Int) + (if true = true then 1 else 0)
    rw [if_pos rfl]
    omega
  | q3 a b =>
    have h := h.1
    show (ρ : Int) ≤ (j : Int) + (if true = true then 1 else 0)
    rw [if_pos rfl]
    omega

section
variable {B P0 n R ρ : Nat} {gs : Nat → GZ} {v : Int} {m : MZ}

theorem chg_arr {q : LkQ} (h : q.chg = none) : arrB q = false := by
  rw [arrB, h]
  rfl

/-- Who arrives. -/
theorem PaJ.go2 (h : PaJ B P0 n R ρ gs v m) {t : Nat} (ht : t < n) {g' : GZ} {v' : Int} {m' : MZ} {a : ActZ} (hG : GcJ B n (fun _ => pasL R) (updG gs t g') v' m') (hL : LnJ n (fun _ => pasL R) (wd P0 n n) (updG gs t g') v' m') (hal : m'.al = m.al ++ [a]) (hel : m'.el = m.el) (hk : m'.k = m.k + 1) (hj : g'.j = (gs t).j)
    (haw : a.w = ((m.k + 1 : Nat) : Int)) (hat : a.t = (t : Int)) (hac : a.c = 0) (h9 : a.o = 9) (hax : a.x = v) (hay : a.y = v') (hne : v ≠ v') (hrv : RV v') (hch : (qq gs m t).chg = none) (hjl : (gs t).j < R) (hE : ∃ n1, EffA passC v v' n1)
    (hpn : phZ v' ≠ phZ v → gwG (pasL R) g' = true) (hss : m'.ss = m.ss) (hnp : gwG (pasL R) (gs t) ≠ true) : ∃ ρ', PaJ B P0 n R ρ' (updG gs t g') v' m' := by
  have hxy : a.x ≠ a.y := by rw [hax, hay]; exact hne
  have hq := fun (s : Nat) (hs : s < n) => h.qact (g' := g') (m' := m') hal hel hj haw hat hac hs
  have hT := h.th t ht
  have hjt := hT.no hch
  have hat0 := chg_arr hch
  have hb : ∀ s, s < n → arrB (qq (updG gs t g') m' s) = if s = t then true else arrB (qq gs m s) := fun s hs => by
    rw [hq s hs]
    split
    · rw [lkStep_chg h9 hxy]; rfl
    · rfl
  obtain ⟨c1, c2⟩ := h.cn
  have hw := h.kap
  have hn16 := h.n16
  obtain ⟨n1, hE⟩ := hE
  have p0 : pc1 gs m ρ t = 0 := by rw [pc1, hat0, if_neg fun h => by cases h.1]
  have p1 : ∀ s, s < n → pc1 gs m ρ s ≤ 1 := fun s _ => by unfold pc1; split <;> omega
  have hcnt : (fun s => pc1 gs m ρ s) = pc1 gs m ρ := rfl
  -- what is said
  have hsd : sdK m'.al m'.el m'.k = sdK m.al m.el m.k ++ [⟨0, 1, (t : Int), ((gs t).j : Int) + 1⟩] := by
    rw [hk, hal, hel]
    have := sdK_next (ae := [a]) (ee := []) h.ln.al h.ln.el (fun b hb => by obtain rfl := List.mem_singleton.1 hb; exact haw) (fun _ h => by cases h)
    rw [List.append_nil] at this
    rw [this, List.filter_cons, if_pos (by rw [chA]; exact decide_eq_true ⟨h9, hxy⟩), List.filter_nil, List.map_cons, List.map_nil, List.map_nil, List.append_nil, sdA, hat, cntE_end h.ln.el, h.ln.tw t ht]
  have hsd2 : ∃ c g, rS (sdK m'.al m'.el m'.k) (noughts n) (noughts n) = some (c, g) ∧ c.length = n ∧ g.length = n ∧ ∀ s, s < n → g.getD s 0 = ((updG gs t g' s).j : Int) ∧ c.getD s 0 = ((updG gs t g' s).j : Int) + (if arrB (qq (updG gs t g') m' s) = true then 1 else 0) := by
    rw [hsd]
    obtain ⟨c, g, h1, h2, h3, h4⟩ := h.sd
    obtain ⟨q1, q2⟩ := h4 t ht
    rw [hat0, if_neg (by decide), Int.add_zero] at q2
    have ho := one_came (g := g) h2 ht (q2.trans q1.symm)
    rw [q2] at ho
    have := rS_snoc h1 (e := ⟨0, 1, (t : Int), ((gs t).j : Int) + 1⟩) (by show (oneZ _ c g).1 = 0; rw [ho])
    dsimp only at this
    rw [ho] at this
    refine ⟨_, _, this, by rw [List.length_set]; exact h2, h3, fun s hs => ?_⟩
    rw [jj_same hj, hb s hs, getD_setZ _ _ _ _ (by omega)]
    obtain ⟨r1, r2⟩ := h4 s hs
    refine ⟨r1, ?_⟩
    by_cases hst : s = t
    · subst hst
      rw [if_pos rfl, if_pos rfl, if_pos rfl]
    · rw [if_neg fun e => hst e.symm, if_neg hst]
      exact r2
  have hsv : ∀ e ∈ sdK m'.al m'.el m'.k, e.v ≤ R := fun e he => by
    rw [hsd] at he
    rcases List.mem_append.1 he with he | he
    · exact h.sv e he
    · obtain rfl := List.mem_singleton.1 he
      show ((gs t).j : Int) + 1 ≤ R
      omega
  have hat' : ∀ b ∈ m'.al, 1 ≤ b.w ∧ 0 ≤ b.t ∧ b.t < n := fun b hb => by
    rw [hal] at hb
    rcases List.mem_append.1 hb with hb | hb
    · exact h.at' b hb
    · obtain rfl := List.mem_singleton.1 hb
      omega
  have hia : Inc m'.al := by rw [hal]; exact inc_snoc h.ia h.ln.al haw
  generalize hκ : n - rsum n (pc1 gs m ρ) = κ at c2 hw
  rw [c2] at hE
  obtain ⟨_, hv'⟩ := pa_eff hn16 hw hrv hE
  by_cases h1 : κ = 1
  · rw [if_pos h1] at hv'
    subst h1
    have hoth : ∀ u, u < n → u ≠ t → arrB (qq gs m u) = true ∧ (gs u).j = ρ := fun u hu hut => by
      have := rsum_rest p1 ht p0 (by omega) hu hut
      unfold pc1 at this
      split at this
      · assumption
      · cases this
    have hall : ∀ u, u < n → (gs u).j = ρ := fun u hu => by
      by_cases hut : u = t
      · subst hut; exact hjt
      · exact (hoth u hu hut).2
    refine ⟨ρ + 1, hG, hL, h.hn, fun s hs => ?_, ?_, fun s hs => .inr ⟨t, ht, ?_⟩, hia, by rw [hel]; exact h.ie, hat', by rw [hel]; exact h.ev, hsd2, hsv⟩
    · rw [hq s hs, jj_same hj]
      split
      · rename_i hst
        subst hst
        rw [lkStep_chg h9 hxy]
        exact ⟨.inr (by omega), 1, Nat.le_refl _, hw.2, by rw [hax, c2, hjt]⟩
      · rename_i hst
        exact (h.th s hs).next (hoth s hs hst).1 (hoth s hs hst).2
    · have hz : rsum n (pc1 (updG gs t g') m' (ρ + 1)) = 0 := by
        have := rsum_const n 0 (pc1 (updG gs t g') m' (ρ + 1)) fun s hs => by
          rw [pc1, jj_same hj, if_neg]
          · exact Nat.le_refl _
          · rintro ⟨_, h2⟩
            have := hall s hs
            omega
        omega
      rw [hz]
      exact ⟨by omega, hv'⟩
    · rw [updG_same]
      refine hpn ?_
      rw [hv', c2, wd_ph hn16 (Nat.le_refl _), wd_ph hn16 hw.2]
      exact φZ_ne _
  · rw [if_neg h1] at hv'
    refine ⟨ρ, hG, hL, h.hn, fun s hs => ?_, ?_, fun s hs => ?_, hia, by rw [hel]; exact h.ie, hat', by rw [hel]; exact h.ev, hsd2, hsv⟩
    · rw [hq s hs, jj_same hj]
      split
      · rename_i hst
        subst hst
        rw [lkStep_chg h9 hxy]
        exact ⟨.inl hjt, κ, hw.1, hw.2, by rw [hax, c2, hjt]⟩
      · exact h.th s hs
    · have hsame : ∀ s, s < n → s ≠ t → pc1 (updG gs t g') m' ρ s = pc1 gs m ρ s := fun s hs hst => by
        rw [pc1, pc1, hb s hs, if_neg hst, jj_same hj]
      have hone : pc1 (updG gs t g') m' ρ t = 1 := by
        rw [pc1, hb t ht, if_pos rfl, jj_same hj, if_pos ⟨rfl, hjt⟩]
      have a1 := rsum_upd (g := pc1 (updG gs t g') m' ρ) (h := pc1 gs m ρ) ht fun s hs hst => Nat.le_of_eq (hsame s hs hst)
      have a2 := rsum_upd (g := pc1 gs m ρ) (h := pc1 (updG gs t g') m' ρ) ht fun s hs hst => Nat.le_of_eq (hsame s hs hst).symm
      rw [hone, p0] at a1 a2
      refine ⟨by omega, ?_⟩
      rw [hv', show κ - 1 = n - rsum n (pc1 (updG gs t g') m' ρ) by omega]
    · rw [hss] at hs
      rw [jj_same hj]
      rcases h.jn s hs with h2 | ⟨u, hu, hp⟩
      · exact .inl h2
      · have hut : u ≠ t := fun e => hnp (by rw [← e]; exact hp)
        exact .inr ⟨u, hu, by rw [updG_ne _ _ hut]; exact hp⟩

/-- Who is told. -/
theorem PaJ.go3 (h : PaJ B P0 n R ρ gs v m) {t : Nat} (ht : t < n) {g' : GZ} {m' : MZ} {x : Int} {c : CallZ} (hG : GcJ B n (fun _ => pasL R) (updG gs t g') v m') (hL : LnJ n (fun _ => pasL R) (wd P0 n n) (updG gs t g') v m') (hal : m'.al = m.al) (hel : m'.el = m.el ++ [⟨((m.k + 1 : Nat) : Int), 3, (t : Int), x⟩]) (hk : m'.k = m.k + 1) (hj : g'.j = (gs t).j + 1)
    (hc : (pasL R)[(gs t).j]? = some c) (hsaid : Said c x (qq gs m t))
    (hjn : ∀ s ∈ m'.ss, s.t.toNat ≠ t ∧ ((gs s.t.toNat).j = ρ ∨ ∃ u, u < n ∧ gwG (pasL R) (updG gs t g' u) = true)) : PaJ B P0 n R ρ (updG gs t g') v m' := by
  obtain rfl := pass_get hc
  have hjR : (gs t).j < R := by
    have := (List.getElem?_eq_some_iff.1 hc).1
    rwa [List.length_replicate] at this
  have hT := h.th t ht
  have hn16 := h.n16
  have hkap := h.kap
  -- it arrived, and saw the next phase
  have hx : x = φZ (P0 + (gs t).j + 1) ∧ ρ = (gs t).j + 1 ∧ arrB (qq gs m t) = true := by
    generalize qq gs m t = q at hT hsaid
    cases q with
    | q0 => exact hsaid.elim
    | q1 a =>
      exfalso
      obtain ⟨_, hxy, σ, κ, h1, h2, h3⟩ := hT
      have he := hsaid.2
      rw [← hxy, h3] at he
      exact pa_same hn16 ⟨h1, h2⟩ he
    | q2 a => exact absurd rfl hsaid.1
    | q3 a b =>
      obtain ⟨h1, ⟨κ, k1, k2, k3⟩, σ, κ', s1, s2, s3, s4, s5⟩ := hT
      obtain ⟨_, _, n1, he, hl, h4⟩ := hsaid
      have ha1 : n1 = φZ (P0 + (gs t).j) := by
        have hy : ∃ y, y = a.y := ⟨_, rfl⟩
        obtain ⟨y, hy⟩ := hy
        rw [k3] at he
        have hdo : phDo (wPh (wd (P0 + (gs t).j) n κ)) 7 0 = some (wPh a.y, n1) := he
        rw [wd_wPh hn16 k2, ph_arr hn16 ⟨k1, k2⟩] at hdo
        exact (Prod.mk.inj (Option.some.inj hdo)).2.symm
      rw [ha1, s5] at hl
      obtain ⟨e1, e2⟩ := pa_lat hn16 s4 hl h4
      have hs : σ = (gs t).j + 1 := by
        rcases Nat.lt_or_ge (gs t).j σ with h5 | h5
        · omega
        · exact absurd (by rw [show σ = (gs t).j by omega]) e2
      subst hs
      exact ⟨e1, by omega, rfl⟩
  obtain ⟨hx, hρ, harr⟩ := hx
  have hend : ∀ s, endT s m'.el = if s = t then endT s m.el ++ [((m.k + 1 : Nat) : Int)] else endT s m.el := fun s => by
    rw [hel, endT_snoc]
    by_cases hst : s = t
    · subst hst; rw [if_pos rfl, if_pos rfl]
    · rw [if_neg hst, if_neg fun e => hst (by dsimp only at e; omega)]
  have hjj : ∀ s, (updG gs t g' s).j = if s = t then (gs s).j + 1 else (gs s).j := fun s => by
    by_cases hst : s = t
    · subst hst; rw [updG_same, if_pos rfl, hj]
    · rw [updG_ne _ _ hst, if_neg hst]
  have hq : ∀ s, s < n → qq (updG gs t g') m' s = if s = t then .q0 else qq gs m s := fun s hs => by
    rw [qq, hal, hend, hjj]
    by_cases hst : s = t
    · subst hst
      rw [if_pos rfl, if_pos rfl, if_pos rfl, ← h.ln.tw s hs, lkOf_new h.ln.al]
    · rw [if_neg hst, if_neg hst, if_neg hst]
  have hsd : sdK m'.al m'.el m'.k = sdK m.al m.el m.k ++ [⟨0, 2, (t : Int), ((gs t).j : Int) + 1⟩] := by
    rw [hk, hal, hel]
    have := sdK_next (ae := []) (ee := [⟨((m.k + 1 : Nat) : Int), 3, (t : Int), x⟩]) h.ln.al h.ln.el (fun _ h => by cases h) (fun b hb => by obtain rfl := List.mem_singleton.1 hb; rfl)
    rw [List.append_nil] at this
    rw [this, List.filter_nil, List.map_nil, List.append_nil, List.map_cons, List.map_nil, sdE]
    dsimp only
    rw [cntE_end h.ln.el, h.ln.tw t ht]
  refine ⟨hG, hL, h.hn, fun s hs => ?_, ?_, fun s hs => ?_, by rw [hal]; exact h.ia, ?_, by rw [hal]; exact h.at', fun i e he => ?_, ?_, fun e he => ?_⟩
  · rw [hq s hs, hjj]
    by_cases hst : s = t
    · subst hst
      rw [if_pos rfl, if_pos rfl]
      exact hρ.symm
    · rw [if_neg hst, if_neg hst]
      exact h.th s hs
  · rw [rsum_cong (g := pc1 gs m ρ) fun s hs => ?_]
    · exact h.cn
    · rw [pc1, pc1, hq s hs, hjj]
      by_cases hst : s = t
      · subst hst
        rw [if_pos rfl, if_neg (fun h => by cases h.1), if_neg (fun h => by have := h.2; omega)]
      · rw [if_neg hst, if_neg hst]
  · obtain ⟨h1, h2⟩ := hjn s hs
    rw [hjj, if_neg h1]
    exact h2
  · rw [hel]
    refine List.pairwise_append.2 ⟨h.ie, List.pairwise_singleton .., fun x hx y hy => ?_⟩
    obtain rfl := List.mem_singleton.1 hy
    have := h.ln.el x hx
    dsimp only
    omega
  · rw [hel] at he ⊢
    rcases Nat.lt_or_ge i m.el.length with hi | hi
    · rw [List.getElem?_append_left hi] at he
      rw [List.take_append_of_le_length (by omega)]
      exact h.ev i e he
    · have hie : i = m.el.length := by
        have := (List.getElem?_eq_some_iff.1 he).1
        rw [List.length_append] at this
        simp only [List.length_singleton] at this
        omega
      subst hie
      rw [List.getElem?_append_right (Nat.le_refl _), Nat.sub_self] at he
      obtain rfl := Option.some.inj he
      refine ⟨by dsimp only; omega, t, rfl, ht, ?_⟩
      rw [List.take_left, h.ln.tw t ht]
      exact hx
  · rw [hsd]
    obtain ⟨c, g, h1, h2, h3, h4⟩ := h.sd
    obtain ⟨q1, q2⟩ := h4 t ht
    rw [harr, if_pos rfl] at q2
    have ho := one_goes (g := g) h2 ht (q2.trans (by rw [q1])) fun u hu => by
      rw [q2, (h4 u hu).2]
      have := (h.th u hu).low
      omega
    rw [q1] at ho
    have := rS_snoc h1 (e := ⟨0, 2, (t : Int), ((gs t).j : Int) + 1⟩) (by show (oneZ _ c g).1 = 0; rw [ho])
    dsimp only at this
    rw [ho] at this
    refine ⟨_, _, this, h2, by rw [List.length_set]; exact h3, fun s hs => ?_⟩
    rw [hjj, hq s hs, getD_setZ _ _ _ _ (by omega)]
    obtain ⟨r1, r2⟩ := h4 s hs
    by_cases hst : s = t
    · subst hst
      rw [if_pos rfl, if_pos rfl, if_pos rfl]
      refine ⟨by omega, ?_⟩
      rw [q2]
      show ((gs s).j : Int) + 1 = (((gs s).j + 1 : Nat) : Int) + (if false = true then 1 else 0)
      rw [if_neg (by decide)]
      omega
    · rw [if_neg fun e => hst e.symm, if_neg hst, if_neg hst]
      exact ⟨r1, r2⟩
  · rw [hsd] at he
    rcases List.mem_append.1 he with he | he
    · exact h.sv e he
    · obtain rfl := List.mem_singleton.1 he
      show ((gs t).j : Int) + 1 ≤ R
      omega

end
end Go.Mac
end

/- Whoever only passes: from the start, behind anything, and in the end. -/
section
open Go Go.Proofs Go.Mac
set_option maxRecDepth 100000
namespace Go.Mac

theorem gw_some {l : List CallZ} {g : GZ} (h : gwG l g = true) : ∃ c, l[g.j]? = some c := by
  rw [gwG] at h
  split at h
  · rename_i c hc
    exact ⟨c, hc⟩
  · cases h

section
variable {B P0 n R ρ : Nat} {gs : Nat → GZ} {v : Int} {m : MZ}

theorem PaJ.step (h : PaJ B P0 n R ρ gs v m) {t : Nat} (hc : canZ m t = true) (hk : m.k < 20000) : ∃ ρ' gs' v', PaJ B P0 n R ρ' gs' v' (stepZ m t).2 := by
  obtain ⟨ht, hd, hno⟩ := h.ln.sys.can hc
  obtain ⟨g', v', e, hl, _, hGc⟩ := gc_step h.gc hc hk
  obtain ⟨g1, v1, e1, hl1, _, hgo⟩ := gc_local h.gc.val (h.gc.hf t ht) (h.gc.th t ht) hd
  obtain ⟨rfl, h2, rfl⟩ := LS.uniq hl hl1
  cases h2
  obtain ⟨g2, v2, e2, hl2, hlo, hLn⟩ := h.ln.go hc hk
  obtain ⟨rfl, h2, rfl⟩ := LS.uniq hl hl2
  cases h2
  obtain ⟨hS, hss, hal, hel, hk'⟩ := h.ln.sys.ls hc hk rfl hl
  have hst : ∀ s ∈ m.ss, s.t.toNat ≠ t := fun s hs e => by
    have := h.ln.sys.wf.ss.2 s hs
    exact hno s hs (by omega)
  have hn8 := h.hn
  have kept : (gwG (pasL R) (gs t) = true → gwG (pasL R) g2 = true) → ∀ s ∈ m.ss, (gs s.t.toNat).j = ρ ∨ ∃ u, u < n ∧ gwG (pasL R) (updG gs t g2 u) = true := fun hw s hs => by
    rcases h.jn s hs with h2 | ⟨u, hu, hp⟩
    · exact .inl h2
    · refine .inr ⟨u, hu, ?_⟩
      by_cases hut : u = t
      · subst hut; rw [updG_same]; exact hw hp
      · rw [updG_ne _ _ hut]; exact hp
  have noact : ∀ {o : Int} {c : Nat} {x y : Int}, e2 = .act o c x y → gwG (pasL R) (gs t) ≠ true := fun he hw => by
    obtain ⟨c, hcc⟩ := gw_some hw
    obtain rfl := pass_get hcc
    exact pend_act hcc hw hl _ _ _ _ he
  cases hlo with
  | quiet hv he hj hg =>
    subst hv
    refine ⟨ρ, _, _, h.go0 hGc hLn (by rcases he with rfl | ⟨_, rfl⟩ | ⟨_, _, rfl⟩ <;> exact hal) (by rcases he with rfl | ⟨_, rfl⟩ | ⟨_, _, rfl⟩ <;> exact hel) hk' hj ?_⟩
    rw [hss]
    rcases he with rfl | ⟨k, rfl⟩ | ⟨k, N, rfl⟩
    · cases hgo with
      | quiet _ _ hw _ => exact kept hw
      | sleep _ _ he _ _ _ => cases he
      | wake _ he _ => cases he
      | swap _ _ he _ _ => cases he
    · intro s hs
      cases hgo with
      | quiet _ he _ _ => rcases he with he | ⟨_, _, he⟩ | ⟨_, _, he⟩ <;> cases he
      | wake _ he _ => cases he
      | swap _ _ he _ _ => cases he
      | sleep _ _ _ hw hsl _ =>
        rcases List.mem_append.1 hs with hs | hs
        · exact kept hw s hs
        · obtain rfl := List.mem_singleton.1 hs
          obtain ⟨⟨c, hcc, _⟩, _⟩ := hsl
          obtain rfl := pass_get hcc
          rw [hj] at hcc
          left
          show (gs ((t : Int).toNat)).j = ρ
          rw [Int.toNat_natCast]
          obtain ⟨a, b, r5, hq, he5, hbx, hph⟩ := sleep_at hcc (h.ln.th t ht) hl
          have hT := h.th t ht
          have hq : qq gs m t = .q3 a b := hq
          rw [hq] at hT
          obtain ⟨h1, ⟨κ, k1, k2, k3⟩, _⟩ := hT
          have hn16 := h.n16
          have hdo : phDo (wPh a.x) 7 0 = some (wPh a.y, r5) := he5
          rw [k3, wd_wPh hn16 k2, ph_arr hn16 ⟨k1, k2⟩] at hdo
          have hr5 := (Prod.mk.inj (Option.some.inj hdo)).2
          rw [h.cn.2, wd_ph hn16 h.kap.2, ← hr5] at hph
          rcases h1 with h1 | h1
          · exact h1
          · exfalso
            rw [← h1] at hph
            exact φZ_ne _ hph
    · intro s hs
      cases hgo with
      | quiet _ he _ _ => rcases he with he | ⟨_, _, he⟩ | ⟨_, _, he⟩ <;> cases he
      | sleep _ _ he _ _ _ => cases he
      | swap _ _ he _ _ => cases he
      | wake _ he _ =>
        cases he
        have hl1 := ss_len h.ln.sys.wf
        rw [h.ln.sys.ln] at hl1
        have hss0 : effWS t m.ss (.wake 0 16) = [] := wake_all (fun s hs => (h.gc.sl s hs).1) (by omega)
        rw [hss0] at hs
        cases hs
  | look hv he hj hg =>
    subst hv
    obtain ⟨o, rfl⟩ := he
    refine ⟨ρ, _, _, h.go1 ht hGc hLn hal hel hk' hj rfl rfl rfl rfl rfl ?_⟩
    rw [hss]
    exact kept fun hw => absurd hw (noact rfl)
  | swap hq hv hne he hj hjl hg =>
    subst he
    have hcc : (pasL R)[(gs t).j]? = some passC := by
      have := List.getElem?_eq_getElem hjl
      rw [this]
      exact congrArg some (pass_get this)
    obtain ⟨ρ', hρ⟩ := h.go2 ht hGc hLn hal hel hk' hj rfl rfl rfl rfl rfl rfl hne hv hq (by rwa [List.length_replicate] at hjl) (by
      obtain ⟨r1, r2, r3, r4, r5, _, hend | ⟨_, c, hc2, hgq⟩⟩ := hg ⟨((m.k + 1 : Nat) : Int), (t : Int), 9, ((0 : Nat) : Int), v, _⟩ rfl rfl rfl
      · exfalso
        have := hend.1
        omega
      · obtain rfl := pass_get hc2
        have hh := hgq.half
        rw [lkStep_chg rfl hne] at hh
        exact hh) (swap_at hcc (h.ln.th t ht) hne hl) hss (noact rfl)
    exact ⟨ρ', _, _, hρ⟩
  | say x c hv he hj hcc hs hg =>
    subst hv he
    refine ⟨ρ, _, _, h.go3 ht hGc hLn hal hel hk' hj hcc hs fun s hs' => ?_⟩
    rw [hss] at hs'
    refine ⟨hst s hs', ?_⟩
    cases hgo with
    | quiet _ _ hw _ => exact kept hw s hs'
    | sleep _ _ he _ _ _ => cases he
    | wake _ he _ => cases he
    | swap _ _ he _ _ => cases he

end
end Go.Mac
end

/- Whoever only passes: behind anything, and in the end. -/
section
open Go Go.Proofs Go.Mac
set_option maxRecDepth 100000
namespace Go.Mac

def PaI (B P0 n R : Nat) (m : MZ) : Prop := ∃ ρ gs v, PaJ B P0 n R ρ gs v m

section
variable {B P0 n R ρ : Nat} {gs : Nat → GZ} {v : Int} {m : MZ}

theorem PaI.step (h : PaI B P0 n R m) (t : Int) : PaI B P0 n R (stepZ m t).2 := by
  obtain ⟨ρ, gs, v, h⟩ := h
  rcases step_or h.ln.sys.wf t with e | ⟨s, rfl, hc, hk⟩
  · rw [e]; exact ⟨ρ, gs, v, h⟩
  · exact h.step hc hk

theorem gcj_poke {ls : Nat → List CallZ} (h : GcJ B n ls gs v m) (t : Int) : GcJ (B + 10) n ls gs v (pokeZ m t) := by
  refine ⟨h.sys.poke t, h.hn, h.hf, h.th, h.rw, fun s hs => h.sl s (List.mem_filter.1 hs).1, fun hne hov => ?_, ?_⟩
  · exact h.jn (fun e => hne (by show m.ss.filter _ = []; rw [e]; rfl)) hov
  · have h1 := h.pot
    have h2 := filter_lenS (t := t) h.sys.wf.ss.1
    show m.k + (rsum n (fun t => glG v (ls t) (gs t)) + 10 * (n - (m.ss.filter fun s => s.t != t).length)) ≤ B + 10
    omega

theorem gcj_mono {ls : Nat → List CallZ} {B' : Nat} (h : GcJ B n ls gs v m) (hb : B ≤ B') : GcJ B' n ls gs v m := ⟨h.sys, h.hn, h.hf, h.th, h.rw, h.sl, h.jn, Nat.le_trans h.pot hb⟩

theorem PaI.poke (h : PaI B P0 n R m) (t : Int) : PaI (B + 10) P0 n R (pokeZ m t) := by
  obtain ⟨ρ, gs, v, h⟩ := h
  exact ⟨ρ, gs, v, gcj_poke h.gc t, h.ln.poke t, h.hn, h.th, h.cn, fun s hs => h.jn s (List.mem_filter.1 hs).1, h.ia, h.ie, h.at', h.ev, h.sd, h.sv⟩

theorem PaI.mono {B' : Nat} (h : PaI B P0 n R m) (hb : B ≤ B') : PaI B' P0 n R m := by
  obtain ⟨ρ, gs, v, h⟩ := h
  exact ⟨ρ, gs, v, gcj_mono h.gc hb, h.ln, h.hn, h.th, h.cn, h.jn, h.ia, h.ie, h.at', h.ev, h.sd, h.sv⟩

theorem aw_arr {q : LkQ} {r5 : Int} (h : aw0 passC r5 q) : arrB q = true := by
  obtain ⟨_, ⟨_, h⟩ | ⟨h, _⟩⟩ := h
  · cases q with
    | q2 a => rfl
    | q3 a b => rfl
    | _ => exact h.elim
  · exact absurd h (by decide)

/-- In the end all are at their ends. -/
theorem pa_fin (h : PaI B P0 n R m) (hb : B < 20000) : ∃ ρ gs v, PaJ B P0 n R ρ gs v (finish m) ∧ allZ (finish m) = true ∧ stuckZ (finish m) = false ∧ ∀ t, t < n → (gs t).j = R := by
  have hw : WF m := by obtain ⟨_, _, _, h⟩ := h; exact h.ln.sys.wf
  obtain ⟨h2, hno⟩ := fin_stop (P := PaI B P0 n R) (fun m t h => h.step t) (fun m h => by obtain ⟨_, _, _, h⟩ := h; have := h.gc.pot; omega) h hw
  obtain ⟨ρ, gs, v, hJ⟩ := h2
  generalize finish m = y at hJ hno ⊢
  have at1 {t : Nat} (ht : t < n) (hd : (gs t).y.dn = false) : (∃ s ∈ y.ss, s.t = t) ∧ ∃ c, (pasL R)[(gs t).j]? = some c ∧ (c.w = 10 ∧ (gs t).y.pc = 8 ∨ c.w = 9 ∧ (gs t).y.pc = 36) := by
    rcases hJ.ln.sys.stop hno ht with hd' | ⟨s, hs, e⟩
    · rw [hd'] at hd; cases hd
    · obtain ⟨_, h1, _⟩ := hJ.gc.sl s hs
      rw [e, Int.toNat_natCast] at h1
      exact ⟨⟨s, hs, e⟩, h1⟩
  have done {t : Nat} (ht : t < n) (hd : (gs t).y.dn = true) : (gs t).j = R := by
    obtain ⟨r1, r2, r3, r4, r5, _, h1 | ⟨h1, _⟩⟩ := hJ.gc.th t ht
    · have := h1.2
      rwa [List.length_replicate] at this
    · rw [hd] at h1; cases h1
  have nopend {t : Nat} (ht : t < n) : gwG (pasL R) (gs t) ≠ true := fun hb => by
    cases hd : (gs t).y.dn with
    | true =>
      have hnone : (pasL R)[(gs t).j]? = none := List.getElem?_eq_none_iff.2 (by rw [List.length_replicate]; have := done ht hd; omega)
      rw [gwG, hnone] at hb
      cases hb
    | false =>
      obtain ⟨_, c, hc, hcw⟩ := at1 ht hd
      rw [gwG, hc] at hb
      have hb : gW c (gs t).y.pc (rgZ (gs t).y.rg 2) (rgZ (gs t).y.rg 3) = true := hb
      unfold gW at hb
      rcases hcw with ⟨h1, h2⟩ | ⟨h1, h2⟩
      · rw [if_pos (.inr h1)] at hb; cases hb
      · rw [if_neg (by omega), if_neg (by omega), h2] at hb
        simp at hb
  -- who sleeps arrived, in the phase that is
  have slept {t : Nat} (ht : t < n) (hd : (gs t).y.dn = false) : (gs t).j = ρ ∧ (gs t).j < R ∧ arrB (qq gs y t) = true := by
    obtain ⟨⟨s, hs, he⟩, c, hc, hcw⟩ := at1 ht hd
    have hjR := (List.getElem?_eq_some_iff.1 hc).1
    rw [List.length_replicate] at hjR
    obtain rfl := pass_get hc
    refine ⟨?_, hjR, ?_⟩
    · rcases hJ.jn s hs with h1 | ⟨u, hu, hp⟩
      · rw [he, Int.toNat_natCast] at h1
        exact h1
      · exact absurd hp (nopend hu)
    · obtain ⟨r1, r2, r3, r4, r5, _, hend | ⟨_, c, hc2, hg⟩⟩ := hJ.ln.th t ht
      · have h1 := hend.1
        rw [List.length_replicate] at h1
        omega
      · rw [hc] at hc2
        obtain rfl := Option.some.inj hc2
        have hpc : (gs t).y.pc = 36 := by
          rcases hcw with ⟨h, _⟩ | ⟨_, h⟩
          · exact absurd h (by decide)
          · exact h
        rw [hpc] at hg
        have hg : (36 ≤ 28 ∧ arrQ (-1) passC 36 r1 r2 r3 r4 r5 (qq gs y t)) ∨ (29 ≤ 36 ∧ awQ passC 7 r1 r2 r5 (qq gs y t)) := hg
        rcases hg with ⟨h, _⟩ | ⟨_, hg⟩
        · omega
        · exact aw_arr hg
  have hall : ∀ t, t < n → (gs t).y.dn = true := fun t ht => by
    cases hd : (gs t).y.dn with
    | true => rfl
    | false =>
      exfalso
      obtain ⟨h1, h2, _⟩ := slept ht hd
      have hf : ∀ s, s < n → pc1 gs y ρ s = 1 := fun s hs => by
        cases hds : (gs s).y.dn with
        | true =>
          have h3 := done hs hds
          have h4 := (hJ.th s hs).two
          omega
        | false =>
          obtain ⟨h3, _, h4⟩ := slept hs hds
          rw [pc1, if_pos ⟨h4, h3⟩]
      have h5 := hJ.cn.1
      rw [rsum_cong (g := fun _ => 1) hf] at h5
      have : rsum n (fun _ => 1) = n := by
        have : ∀ k, rsum k (fun _ => 1) = k := fun k => by
          induction k with
          | zero => rfl
          | succ k ih => rw [rsum_succ, ih]
        exact this n
      omega
  have hd : ∀ x ∈ y.ts, x.dn = true := fun x hx => by
    obtain ⟨i, hi⟩ := List.mem_iff_getElem?.1 hx
    have hil := (List.getElem?_eq_some_iff.1 hi).1
    rw [hJ.ln.sys.ln] at hil
    rw [hJ.ln.sys.ts i hil] at hi
    obtain rfl := Option.some.inj hi
    exact hall i hil
  exact ⟨ρ, gs, v, hJ, all_ofS hd, stuck_ofS hd, fun t ht => done ht (hall t ht)⟩

end

/-! ### From the start -/

theorem pass_right {R : Nat} (hR : R ≤ 5) : rightZ (gathP (pasL R)) 1 = true := asked_right (by rw [List.length_replicate]; omega) fun c hc => by
  obtain rfl := List.eq_of_mem_replicate hc
  exact List.mem_append_left _ (by simp)

theorem pass_fit {R : Nat} : ∀ c ∈ pasL R, gFit c := fun c hc => by
  obtain rfl := List.eq_of_mem_replicate hc
  rfl

theorem pa_init {P0 n R : Nat} (hn : 1 ≤ n ∧ n ≤ 8) (hR : R ≤ 5) : PaI 11700 P0 n R (mz0 ((List.replicate n (pasL R)).map gathP) [wd P0 n n]) := by
  have hn16 : 1 ≤ n ∧ n ≤ 16 := by omega
  have hrw := wd_rw (φ := P0) hn16 (Nat.le_refl n)
  have hts : ∀ t, t < n → (mz0 ((List.replicate n (pasL R)).map gathP) [wd P0 n n]).ts[t]? = some th0 := fun t ht => by
    show (List.replicate ((List.replicate n (pasL R)).map _).length th0)[t]? = _
    rw [List.length_map, List.length_replicate, List.getElem?_replicate, if_pos ht]
  have hsys : SysW n 1 (fun t => (pasL R).map bodyG) (fun _ => ⟨0, th0⟩) [wd P0 n n] (mz0 ((List.replicate n (pasL R)).map gathP) [wd P0 n n]) := by
    refine ⟨mz0_wf (by simp; omega) (by simp) (fun p hp => ?_) (fun x hx => ?_), by simp [mz0], rfl, fun t ht => ?_, rfl, fun t ht => ?_⟩
    · obtain ⟨l, hl', rfl⟩ := List.mem_map.1 hp
      obtain rfl := List.eq_of_mem_replicate hl'
      exact pass_right hR
    · obtain rfl := List.mem_singleton.1 hx
      exact ⟨hrw.1, hrw.rv.2.1⟩
    · show ((List.replicate n (pasL R)).map gathP)[t]? = _
      rw [List.getElem?_map, List.getElem?_replicate, if_pos ht, ← gathP_cat]; rfl
    · rw [hts t ht]; rfl
  refine ⟨0, fun _ => ⟨0, th0⟩, wd P0 n n, ⟨hsys, hn.2, fun _ _ => pass_fit, fun t ht => ?_, fun _ => hrw, (fun s hs => by cases hs), (fun h => absurd rfl h), ?_⟩,
    ⟨hsys, fun _ _ => pass_fit, hrw.rv, rfl, (fun a h => by cases h), (fun e h => by cases h), fun _ _ => rfl, fun _ _ => rfl, fun _ _ => Nat.zero_le _, fun _ => List.Pairwise.nil, fun t ht => ?_, (fun s _ k x c h => by cases h), (fun a h => by cases h)⟩,
    hn, fun _ _ => rfl, ?_, (fun s hs => by cases hs), List.Pairwise.nil, List.Pairwise.nil, (fun a h => by cases h), (fun i e h => by cases h), ⟨noughts n, noughts n, rfl, List.length_replicate .., List.length_replicate .., fun t ht => ?_⟩, (fun e h => by cases h)⟩
  · refine ⟨0, 0, 0, 0, 0, rfl, .inr ⟨rfl, ?_⟩⟩
    cases h : (pasL R)[0]? with
    | none => exact .inr ⟨by have := List.getElem?_eq_none_iff.1 h; show 0 = _; omega, rfl⟩
    | some c => exact .inl ⟨c, by first | exact h | rfl, gOk_0 ..⟩
  · have h1 : rsum n (fun t => glG (wd P0 n n) (pasL R) ⟨0, th0⟩) ≤ n * 1451 := rsum_const _ _ _ fun t ht => by
      have h1 := gl_0 (wd P0 n n) (pasL R) 0 th0.rg
      rw [List.length_replicate] at h1
      show glG (wd P0 n n) (pasL R) ⟨0, ⟨0, th0.rg, false⟩⟩ ≤ 1451
      omega
    have h2 : n * 1451 ≤ 8 * 1451 := Nat.mul_le_mul_right _ hn.2
    show 0 + (_ + 10 * (n - 0)) ≤ 11700
    omega
  · exact QG_0 (Nat.zero_le _) 0 0 0 0 0
  · have hz : rsum n (pc1 (fun _ => (⟨0, th0⟩ : GZ)) (mz0 ((List.replicate n (pasL R)).map gathP) [wd P0 n n]) 0) = 0 := by
      have := rsum_const n 0 (pc1 (fun _ => (⟨0, th0⟩ : GZ)) (mz0 ((List.replicate n (pasL R)).map gathP) [wd P0 n n]) 0) fun s hs => by
        rw [pc1, if_neg]
        · exact Nat.le_refl _
        · rintro ⟨h, _⟩
          cases h
      omega
    rw [hz]
    exact ⟨by omega, rfl⟩
  · rw [noughts_getD]
    exact ⟨rfl, rfl⟩

theorem pa_moves {P0 n R : Nat} (hn : 1 ≤ n ∧ n ≤ 8) (hR : R ≤ 5) (ms : List MoveZ) : PaI (11700 + 10 * ms.length) P0 n R (movesZ (mz0 ((List.replicate n (pasL R)).map gathP) [wd P0 n n]) ms) := by
  have := moves_inv (P := fun i m => PaI (11700 + 10 * i) P0 n R m)
    (fun i m t h => (h.step t).mono (by omega)) (fun i m t h => (h.poke t).mono (by omega)) ms 0 _ (pa_init hn hR)
  rw [Nat.zero_add] at this
  exact this

end Go.Mac
end

/- Acts and events, step by step, as they are gone through; and slices.Repeat of calls. -/
section
open Go Go.Proofs Go.Mac
set_option maxRecDepth 100000
namespace Go.Mac

/-! ### Step by step -/

theorem cntE_take {el : List EvZ} {j : Nat} {s : Int} {t : Nat} (h1 : ∀ e ∈ el.take j, e.w ≤ s) (h2 : ∀ e ∈ el.drop j, s < e.w) : cntE el t s = ((endT t (el.take j)).length : Int) := by
  have := cntE_app (el := el.take j) (ee := el.drop j) (t := t) (s := s) h2
  rw [List.take_append_drop] at this
  rw [this, cntE_end h1]

def actP (al : List ActZ) (el : List EvZ) (s i : Nat) : List EvZ := ((al.take i).filter fun a => decide (a.w = ((s + 1 : Nat) : Int)) && chA a).map (sdA el s)
def evP (el : List EvZ) (s j : Nat) : List EvZ := ((el.take j).filter fun e => decide (e.w = ((s + 1 : Nat) : Int))).map (sdE el s)

theorem actP_all {al : List ActZ} {el : List EvZ} {s i : Nat} (h : ∀ a ∈ al.drop i, ((s + 1 : Nat) : Int) < a.w) : actP al el s i = (al.filter fun a => decide (a.w = ((s + 1 : Nat) : Int)) && chA a).map (sdA el s) := by
  have e : ((al.drop i).filter fun a => decide (a.w = ((s + 1 : Nat) : Int)) && chA a) = [] := by
    rw [List.filter_eq_nil_iff]
    intro a ha
    have := h a ha
    simp only [Bool.and_eq_true, decide_eq_true_eq]
    omega
  rw [actP]
  conv => rhs; rw [← List.take_append_drop i al]
  rw [List.filter_append, e, List.append_nil]

theorem evP_all {el : List EvZ} {s j : Nat} (h : ∀ e ∈ el.drop j, ((s + 1 : Nat) : Int) < e.w) : evP el s j = (el.filter fun e => decide (e.w = ((s + 1 : Nat) : Int))).map (sdE el s) := by
  have e : ((el.drop j).filter fun e => decide (e.w = ((s + 1 : Nat) : Int))) = [] := by
    rw [List.filter_eq_nil_iff]
    intro a ha
    have := h a ha
    simp only [decide_eq_true_eq]
    omega
  have e3 : (el.filter fun e => decide (e.w = ((s + 1 : Nat) : Int))) = (el.take j).filter fun e => decide (e.w = ((s + 1 : Nat) : Int)) := by
    conv => lhs; rw [← List.take_append_drop j el]
    rw [List.filter_append, e, List.append_nil]
  rw [evP, e3]

theorem actP_none {al : List ActZ} {el : List EvZ} {s i : Nat} (h : ∀ a ∈ al.take i, a.w < ((s + 1 : Nat) : Int)) : actP al el s i = [] := by
  rw [actP, List.map_eq_nil_iff, List.filter_eq_nil_iff]
  intro a ha
  have := h a ha
  simp only [Bool.and_eq_true, decide_eq_true_eq]
  omega

theorem evP_none {el : List EvZ} {s j : Nat} (h : ∀ e ∈ el.take j, e.w < ((s + 1 : Nat) : Int)) : evP el s j = [] := by
  rw [evP, List.map_eq_nil_iff, List.filter_eq_nil_iff]
  intro a ha
  have := h a ha
  simp only [decide_eq_true_eq]
  omega

theorem actP_next {al : List ActZ} {el : List EvZ} {s i : Nat} {a : ActZ} (h : al[i]? = some a) (hw : a.w = ((s + 1 : Nat) : Int)) : actP al el s (i + 1) = actP al el s i ++ if chA a = true then [sdA el s a] else [] := by
  rw [actP, actP, List.take_add_one, h, List.filter_append, List.map_append]
  congr 1
  rw [show (some a).toList = [a] from rfl, List.filter_cons, List.filter_nil, decide_eq_true hw, Bool.true_and]
  split <;> rfl

theorem evP_next {el : List EvZ} {s j : Nat} {e : EvZ} (h : el[j]? = some e) (hw : e.w = ((s + 1 : Nat) : Int)) : evP el s (j + 1) = evP el s j ++ [sdE el s e] := by
  rw [evP, evP, List.take_add_one, h, List.filter_append, List.map_append]
  congr 1
  rw [show (some e).toList = [e] from rfl, List.filter_cons, List.filter_nil, decide_eq_true hw, if_pos rfl]
  rfl

theorem sdK_len (al : List ActZ) (el : List EvZ) : ∀ s : Nat, (sdK al el s).length ≤ (al.filter fun a => decide (a.w ≤ (s : Int))).length + (el.filter fun e => decide (e.w ≤ (s : Int))).length
  | 0 => Nat.zero_le _
  | s + 1 => by
    have ih := sdK_len al el s
    have f1 : ∀ l : List ActZ, (l.filter fun a => decide (a.w ≤ (s : Int))).length + (l.filter fun a => decide (a.w = ((s + 1 : Nat) : Int)) && chA a).length ≤ (l.filter fun a => decide (a.w ≤ ((s + 1 : Nat) : Int))).length := by
      intro l
      induction l with
      | nil => exact Nat.le_refl _
      | cons a l ih =>
        rw [List.filter_cons, List.filter_cons, List.filter_cons]
        by_cases h1 : a.w ≤ (s : Int)
        · rw [if_pos (decide_eq_true h1), if_neg (by simp only [Bool.and_eq_true, decide_eq_true_eq]; omega), if_pos (decide_eq_true (by omega)), List.length_cons, List.length_cons]
          omega
        · rw [if_neg (by simpa using h1)]
          by_cases h2 : a.w = ((s + 1 : Nat) : Int)
          · rw [if_pos (c := decide (a.w ≤ ((s + 1 : Nat) : Int)) = true) (decide_eq_true (by omega)), List.length_cons]
            split
            · rw [List.length_cons]; omega
            · omega
          · rw [if_neg (by simp only [Bool.and_eq_true, decide_eq_true_eq]; exact fun h => h2 h.1)]
            split
            · rw [List.length_cons]; omega
            · exact ih
    have f2 : ∀ l : List EvZ, (l.filter fun a => decide (a.w ≤ (s : Int))).length + (l.filter fun a => decide (a.w = ((s + 1 : Nat) : Int))).length ≤ (l.filter fun a => decide (a.w ≤ ((s + 1 : Nat) : Int))).length := by
      intro l
      induction l with
      | nil => exact Nat.le_refl _
      | cons a l ih =>
        rw [List.filter_cons, List.filter_cons, List.filter_cons]
        by_cases h1 : a.w ≤ (s : Int)
        · rw [if_pos (decide_eq_true h1), if_neg (by simp only [decide_eq_true_eq]; omega), if_pos (decide_eq_true (by omega)), List.length_cons, List.length_cons]
          omega
        · rw [if_neg (by simpa using h1)]
          by_cases h2 : a.w = ((s + 1 : Nat) : Int)
          · rw [if_pos (c := decide (a.w ≤ ((s + 1 : Nat) : Int)) = true) (decide_eq_true (by omega)), List.length_cons, if_pos (decide_eq_true h2), List.length_cons]
            omega
          · rw [if_neg (by simpa using h2)]
            split
            · rw [List.length_cons]; omega
            · exact ih
    have g1 := f1 al
    have g2 := f2 el
    rw [sdK, List.length_append, List.length_append, List.length_map, List.length_map]
    omega

theorem sdK_small (al : List ActZ) (el : List EvZ) (s : Nat) : (sdK al el s).length ≤ al.length + el.length := by
  have h := sdK_len al el s
  have h1 := List.length_filter_le (fun a : ActZ => decide (a.w ≤ (s : Int))) al
  have h2 := List.length_filter_le (fun a : EvZ => decide (a.w ≤ (s : Int))) el
  omega

theorem actP_small (al : List ActZ) (el : List EvZ) (s i : Nat) : (actP al el s i).length ≤ al.length := by
  rw [actP, List.length_map]
  have h1 := List.length_filter_le (fun a : ActZ => decide (a.w = ((s + 1 : Nat) : Int)) && chA a) (al.take i)
  rw [List.length_take] at h1
  omega

theorem evP_small (el : List EvZ) (s j : Nat) : (evP el s j).length ≤ el.length := by
  rw [evP, List.length_map]
  have h1 := List.length_filter_le (fun a : EvZ => decide (a.w = ((s + 1 : Nat) : Int))) (el.take j)
  rw [List.length_take] at h1
  omega

/-- How often each was told, in what was gone through. -/
def rdL (n : Nat) (el : List EvZ) : List Int := (List.range n).map fun t => ((endT t el).length : Int)

theorem rdL_len (n : Nat) (el : List EvZ) : (rdL n el).length = n := by simp [rdL]
theorem rdL_get {n t : Nat} (el : List EvZ) (h : t < n) : (rdL n el)[t]? = some ((endT t el).length : Int) := by
  rw [rdL, List.getElem?_map, List.getElem?_range h]
  rfl
theorem rdL_nil (n : Nat) : rdL n [] = noughts n := by
  refine List.ext_getElem? fun i => ?_
  rcases Nat.lt_or_ge i n with h | h
  · rw [rdL_get _ h, noughts, List.getElem?_replicate, if_pos h]
    rfl
  · rw [List.getElem?_eq_none (by rw [rdL_len]; exact h), List.getElem?_eq_none (by rw [noughts, List.length_replicate]; exact h)]
theorem rdL_snoc {n t : Nat} {el : List EvZ} {e : EvZ} (ht : e.t = t) (h : t < n) : rdL n (el ++ [e]) = (rdL n el).set t (((endT t el).length : Int) + 1) := by
  refine List.ext_getElem? fun i => ?_
  rcases Nat.lt_or_ge i n with hi | hi
  · rw [rdL_get _ hi, List.getElem?_set, endT_snoc]
    by_cases hit : t = i
    · subst hit
      rw [if_pos ht, if_pos rfl, if_pos (by rw [rdL_len]; exact h), List.length_append]
      rfl
    · rw [if_neg (by omega), if_neg hit, rdL_get _ hi]
  · rw [List.getElem?_eq_none (by rw [rdL_len]; exact hi), List.getElem?_eq_none (by rw [List.length_set, rdL_len]; exact hi)]

/-! ### What a judge says in the end -/

theorem any_le {l : List EvZ} {R : Int} (h : ∀ e ∈ l, e.v ≤ R) : ∀ {a : Int}, a ≤ R → l.foldl anyStep a ≤ R := by
  induction l with
  | nil => exact fun h => h
  | cons e l ih =>
    intro a ha
    refine ih (fun x hx => h x (List.mem_cons_of_mem _ hx)) ?_
    have := h e (by simp)
    unfold anyStep
    split <;> omega

theorem end_all {n R : Nat} (hn : 1 ≤ n) {l : List EvZ} {c g : List Int} (hr : rS l (noughts n) (noughts n) = some (c, g)) (hg : ∀ t, t < n → g.getD t 0 = (R : Int)) (hv : ∀ e ∈ l, e.v ≤ R) : checkZ n l = none ∧ allG n l = R ∧ anyR l = R := by
  have hc : checkZ n l = none := rS_run 0 hr
  have hgo : goneR n l = g := rS_gone hr
  obtain ⟨h1, u, hu, h2⟩ := allG_min hn l
  rw [hgo, hg u hu] at h2
  obtain ⟨h3, _, _⟩ := rounds_apart hn hc
  have h4 := any_le hv (a := 0) (by omega)
  refine ⟨hc, h2, ?_⟩
  rw [h2] at h3
  exact Int.le_antisymm h4 h3

/-! ### Repeat -/

section
variable {K : AV → List Nat → List PO → Prop}

def reC (p : List FC) (n k : Nat) : List (List FC) := List.replicate k p ++ List.replicate (n - k) [.int .i64 0, .int .i64 0]

theorem reC_len {p : List FC} {n k : Nat} (hk : k ≤ n) : (reC p n k).length = n := by simp [reC]; omega

theorem reC_over {p : List FC} {n k m : Nat} (hk : k + m ≤ n) : over (reC p n k) k (List.replicate m p) = reC p n (k + m) := by
  rw [over, reC, reC, List.take_append_of_le_length (by simp), List.length_replicate, List.drop_append, List.drop_eq_nil_of_le (by simp), List.nil_append, List.length_replicate]
  simp only [List.take_replicate, List.drop_replicate, Nat.min_self]
  rw [List.replicate_append_replicate, show k + m - k = m by omega, show n - k - m = n - (k + m) by omega]

theorem reC_take {p : List FC} {n k m : Nat} (hm : m ≤ k) : ((reC p n k).drop 0).take m = List.replicate m p := by
  rw [List.drop_zero, reC, List.take_append_of_le_length (by simpa using hm), List.take_replicate, Nat.min_eq_left hm]

set_option maxHeartbeats 1000000 in
theorem repeatC {n : Nat} {p : List FC} {nn : Bool} (hn : n ≤ 16) (h : K (cv (.slc 1 0 n none true)) [] [.rows false 2 [p], .rows false 2 (List.replicate n p)]) :
    Does Tryd.prog 46 [cv (.slc 0 0 1 none nn), i64 n] [.rows false 2 [p]] K := by
  refine does Tryd.func46 rfl (by decide) ?_
  change Does Tryd.prog 84 _ _ _
  rw [show IntKind.u64.wrap ((1 : Nat) : Int) = 1 from rfl, wrap_u64 (n : Int) (by omega) (by omega)]
  refine Does.alone 1 (mulBits n hn ?_)
  refine brc_intro (fun h => ?_) (fun _ => ?_)
  · have h := of_decide_eq_true h
    have h : (n : Int) > 9223372036854775807 := h
    omega
  have wn : IntKind.i64.wrap (n : Int) = n := wrap_i64 _ (by omega) (by omega)
  refine And.intro ?_ (And.intro (Int.le_refl _) (And.intro ?_ (And.intro ?_ ?_)))
  · rw [wn]; omega
  · rw [wn]
    show (16 : Int) * (n : Int) ≤ _
    omega
  · rw [wn]; omega
  rw [wn, Int.toNat_natCast]
  refine And.intro (by simp) (And.intro (by simp) ?_)
  have e0 : over (List.replicate n ([.int .i64 0, .int .i64 0] : List FC)) 0 ((([p] : List (List FC)).drop 0).take (min 1 n)) = reC p n (min 1 n) := by
    have := reC_over (p := p) (n := n) (k := 0) (m := min 1 n) (by omega)
    rw [Nat.zero_add] at this
    rw [← this]
    congr 1
    rcases Nat.eq_zero_or_pos n with rfl | hp
    · rfl
    · rw [show min 1 n = 1 by omega]
      rfl
  refine SS.loop (fun k : Nat => k ≤ n ∧ (n = 0 ∨ 1 ≤ k)) (fun k => [(7, cv (.slc 1 0 n none true)), (8, i64 k)]) (fun k => [.rows false 2 [p], .rows false 2 (reC p n k)]) (fun k => n - k) []
    (At.mk' [7, 8] (min 1 n) ⟨Nat.min_le_right _ _, by omega⟩ ⟨rfl, rfl⟩ ?_ rfl (by simp) (by simp) (by simp)) ?_
  · rw [← e0]
    rfl
  rintro k ⟨hkn, hk1⟩
  refine S_r ?_
  refine brc_intro (fun hlt => ?_) (fun hlt => ?_)
  · have hlt : k < n := by
      have := of_decide_eq_true hlt
      have : (k : Int) < (n : Int) := this
      omega
    refine SS.drawR follows (by decide) ?_
    refine Or.inl (at2 (by omega) (by omega) ?_)
    refine Or.inl (at2 (by omega) (by omega) ?_)
    have c0 : (0 : Int) ≤ (k : Int) := by omega
    have c1 : (k : Int) ≤ (n : Int) := by omega
    repeat' (first | refine And.intro rfl ?_ | refine And.intro (Or.inl (And.intro c0 (And.intro c1 rfl))) ?_ | fail)
    have hl1 : (reC p n k).length = n := reC_len hkn
    refine And.intro (by rw [hl1]; omega) (And.intro (by rw [hl1]; omega) ?_)
    have e2 : ((k : Int).toNat - 0) = k := by omega
    have e3 : (n - (k : Int).toNat) = n - k := by omega
    have e4 : (0 + (k : Int).toNat) = k := by omega
    rw [e2, e3, e4]
    have e5 : ((reC p n k).drop (0 + 0)).take (min k (n - k)) = List.replicate (min k (n - k)) p := reC_take (Nat.min_le_left _ _)
    have e6 := reC_over (p := p) (n := n) (k := k) (m := min k (n - k)) (by omega)
    rw [e5, e6]
    repeat' (first | refine And.intro rfl ?_ | refine And.intro (Or.inl (And.intro c0 (And.intro c1 rfl))) ?_ | fail)
    refine At.mk' [7, 8] (k + min k (n - k)) ⟨⟨by omega, by omega⟩, by omega⟩ ⟨?_, rfl⟩ rfl rfl (by simp) (by simp) (by decide)
    rw [show IntKind.i64.wrap ((k : Int) + ((min k (n - k) : Nat) : Int)) = ((k + min k (n - k) : Nat) : Int) from wrap_i64 _ (by omega) (by omega)]
  · have hlt : ¬ (k : Int) < (n : Int) := of_decide_eq_false hlt
    obtain rfl : k = n := by omega
    have : reC p k k = List.replicate k p := by simp [reC]
    rw [this]
    exact h

end
end Go.Mac
end
