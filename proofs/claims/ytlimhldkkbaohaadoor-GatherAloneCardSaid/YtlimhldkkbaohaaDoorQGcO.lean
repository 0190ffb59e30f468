/- One who closes a phaser, and goes on asking. -/
import Derived.Test.YtlimhldkkbaohaaDoorQGcS
open Go Go.Proofs Go.Mac
set_option maxRecDepth 100000
namespace Go.Mac

abbrev ownL : List CallZ := [⟨11, 0⟩, ⟨7, 0⟩, ⟨9, 0⟩, ⟨6, 1⟩]
abbrev topZ : Int := 18446744073709551615
abbrev over' (v : Int) : Prop := 9223372036854775808 ≤ v

def failO (a b : Nat) (o : Nat) (r1 r2 : Int) : Prop := o = 0 ∨ (o = 1 ∧ over' r1) ∨ (o = 2 ∧ r2 = 1) ∨ o = a ∨ ((o = a + 1 ∨ o = b) ∧ r2 = topZ)

def ownOk (v : Int) (j o : Nat) (r1 r2 r3 : Int) : Prop :=
  match j with
  | 0 => (o = 5 → r3 = 1 → over' v) ∧ (6 ≤ o → over' v) ∧ (o = 8 → r2 = 0) ∧ (o = 10 → r2 = 0 ∨ r2 = topZ)
  | 1 => over' v ∧ failO 25 30 o r1 r2
  | 2 => over' v ∧ failO 25 38 o r1 r2
  | 3 => over' v ∧ failO 11 14 o r1 r2
  | _ => over' v

def OwnG (v : Int) (g : GZ) : Prop := ownOk v g.j g.y.pc (rgZ g.y.rg 1) (rgZ g.y.rg 2) (rgZ g.y.rg 3)

def ownSay (j : Nat) (x : Int) : Prop := (j = 0 ∧ (x = 0 ∨ x = -1)) ∨ (1 ≤ j ∧ x = -1)

theorem LS.det {nc : Nat} {bl : List (List InsZ)} {g g' : GZ} {ws ws' ws1 : List Int} {e e1 : EffW} {i : InsZ} {y : ThZ} (hl : LS nc bl g ws g' ws' e) (hi : insG bl g = some i) (hn : nextW i g.y ws = (y, ws1, e1)) : g' = normG bl ⟨g.j, y⟩ ∧ ws' = ws1 ∧ e = e1 := by
  obtain ⟨i', y', h1, _, h3, rfl⟩ := hl
  rw [hi] at h1
  obtain rfl := Option.some.inj h1
  rw [hn] at h3
  cases h3
  exact ⟨rfl, rfl, rfl⟩

def OwnS (v' : Int) (g : GZ) (g' : GZ) (e : EffW) : Prop := OwnG v' g' ∧ ∀ a x, e = .say a x → a = 3 ∧ ownSay g.j x

theorem own_fail {v v' : Int} {g' : GZ} {e : EffW} {j : Nat} {a b : Nat} {o : Nat} {r1 r2 r3 r4 r5 : Int} (hv : WD v v) (hov : over' v) (hf : failO a b o r1 r2)
    (hj : j = 1 ∧ a = 25 ∧ b = 30 ∨ j = 2 ∧ a = 25 ∧ b = 38 ∨ j = 3 ∧ a = 11 ∧ b = 14) (hl : LS 1 (ownL.map bodyG) ⟨j, ⟨o, [0, r1, r2, r3, r4, r5, 0, 0], false⟩⟩ [v] g' [v'] e) (h12 : o = 1 → 0 ≤ r1 ∧ r1 < 18446744073709551616) :
    OwnS v' ⟨j, ⟨o, [0, r1, r2, r3, r4, r5, 0, 0], false⟩⟩ g' e := by
  have one : ∀ {x y : Int}, [x] = [y] → x = y := fun h => by cases h; rfl
  have wm : IntKind.i64.wrap topZ = -1 := by decide
  rcases hf with rfl | ⟨rfl, h1⟩ | ⟨rfl, rfl⟩ | rfl | ⟨rfl | rfl, rfl⟩
  · rcases hj with ⟨rfl, rfl, rfl⟩ | ⟨rfl, rfl, rfl⟩ | ⟨rfl, rfl, rfl⟩ <;>
    · obtain ⟨rfl, hw, rfl⟩ := hl.det rfl rfl
      obtain rfl := one hw
      exact ⟨⟨hov, .inr (.inl ⟨rfl, hov⟩)⟩, fun a x h => by cases h⟩
  · have hb := gb_over (r := r1) (h12 rfl)
    rw [if_pos h1] at hb
    rcases hj with ⟨rfl, rfl, rfl⟩ | ⟨rfl, rfl, rfl⟩ | ⟨rfl, rfl, rfl⟩ <;>
    · obtain ⟨rfl, hw, rfl⟩ := hl.det rfl rfl
      obtain rfl := one hw
      exact ⟨⟨hov, .inr (.inr (.inl ⟨rfl, hb⟩))⟩, fun a x h => by cases h⟩
  · rcases hj with ⟨rfl, rfl, rfl⟩ | ⟨rfl, rfl, rfl⟩ | ⟨rfl, rfl, rfl⟩ <;>
    · obtain ⟨rfl, hw, rfl⟩ := hl.det rfl (nx_same rfl)
      obtain rfl := one hw
      exact ⟨⟨hov, .inr (.inr (.inr (.inl rfl)))⟩, fun a x h => by cases h⟩
  · rcases hj with ⟨rfl, rfl, rfl⟩ | ⟨rfl, rfl, rfl⟩ | ⟨rfl, rfl, rfl⟩ <;>
    · obtain ⟨rfl, hw, rfl⟩ := hl.det rfl rfl
      obtain rfl := one hw
      exact ⟨⟨hov, .inr (.inr (.inr (.inr ⟨.inl rfl, rfl⟩)))⟩, fun a x h => by cases h⟩
  · rcases hj with ⟨rfl, rfl, rfl⟩ | ⟨rfl, rfl, rfl⟩ | ⟨rfl, rfl, rfl⟩ <;>
    · obtain ⟨rfl, hw, rfl⟩ := hl.det rfl rfl
      obtain rfl := one hw
      exact ⟨⟨hov, .inr (.inr (.inr (.inr ⟨.inr rfl, rfl⟩)))⟩, fun a x h => by cases h⟩
  · rcases hj with ⟨rfl, rfl, rfl⟩ | ⟨rfl, rfl, rfl⟩ | ⟨rfl, rfl, rfl⟩
    · obtain ⟨rfl, hw, rfl⟩ := hl.det rfl rfl
      obtain rfl := one hw
      exact ⟨⟨hov, .inl rfl⟩, fun a x h => by cases h; exact ⟨rfl, .inr ⟨Nat.le_of_ble_eq_true rfl, wm⟩⟩⟩
    · obtain ⟨rfl, hw, rfl⟩ := hl.det rfl rfl
      obtain rfl := one hw
      exact ⟨⟨hov, .inl rfl⟩, fun a x h => by cases h; exact ⟨rfl, .inr ⟨Nat.le_of_ble_eq_true rfl, wm⟩⟩⟩
    · obtain ⟨rfl, hw, rfl⟩ := hl.det rfl rfl
      obtain rfl := one hw
      exact ⟨hov, fun a x h => by cases h; exact ⟨rfl, .inr ⟨Nat.le_of_ble_eq_true rfl, wm⟩⟩⟩

set_option maxHeartbeats 2000000 in
theorem own_local {v v' : Int} {g g' : GZ} {e : EffW} (hv : WD v v) (hG : GcG ownL v g) (hd : g.y.dn = false) (hO : OwnG v g) (hl : LS 1 (ownL.map bodyG) g [v] g' [v'] e) : OwnS v' g g' e := by
  have one : ∀ {x y : Int}, [x] = [y] → x = y := fun h => by cases h; rfl
  obtain ⟨r1, r2, r3, r4, r5, hrg, hcase⟩ := hG
  obtain ⟨j, o, rg, dn⟩ := g
  dsimp only at hd hrg hcase
  subst hd hrg
  rcases hcase with ⟨h1, _⟩ | ⟨_, ⟨c, hb, hok⟩ | ⟨hj, ho⟩⟩
  · cases h1
  · have hj4 := (List.getElem?_eq_some_iff.1 hb).1
    rcases (show j = 0 ∨ j = 1 ∨ j = 2 ∨ j = 3 by have : j < 4 := hj4; omega) with rfl | rfl | rfl | rfl
    · obtain rfl := Option.some.inj hb
      have hok : clsOk v o r1 r2 r3 r4 := hok
      obtain ⟨q5, q6, q8, q10⟩ : (o = 5 → r3 = 1 → over' v) ∧ (6 ≤ o → over' v) ∧ (o = 8 → r2 = 0) ∧ (o = 10 → r2 = 0 ∨ r2 = topZ) := hO
      have ho := hok.1
      rcases (show o = 0 ∨ o = 1 ∨ o = 2 ∨ o = 3 ∨ o = 4 ∨ o = 5 ∨ o = 6 ∨ o = 7 ∨ o = 8 ∨ o = 9 ∨ o = 10 by omega) with rfl | rfl | rfl | rfl | rfl | rfl | rfl | rfl | rfl | rfl | rfl
      · obtain ⟨rfl, hw, rfl⟩ := hl.det rfl rfl
        exact ⟨⟨(fun h => by cases h), fun h => absurd (show 6 ≤ 1 from h) (by decide), (fun h => by cases h), (fun h => by cases h)⟩, fun a x h => by cases h⟩
      · obtain ⟨rfl, hw, rfl⟩ := hl.det rfl rfl
        exact ⟨⟨(fun h => by cases h), fun h => absurd (show 6 ≤ 2 from h) (by decide), (fun h => by cases h), (fun h => by cases h)⟩, fun a x h => by cases h⟩
      · have hw2 := hok.2.1.1 (.inr rfl)
        have h2 := hok.2.1.2 rfl
        by_cases hov : 9223372036854775808 ≤ r1
        · rw [if_pos hov] at h2
          subst h2
          obtain ⟨rfl, hw, rfl⟩ := hl.det rfl (nx_same rfl)
          obtain rfl := one hw
          exact ⟨⟨(fun h => by cases h), fun _ => hw2.2.2.2 hov, (fun h => by cases h), (fun h => by cases h)⟩, fun a x h => by cases h⟩
        · rw [if_neg hov] at h2
          subst h2
          obtain ⟨rfl, hw, rfl⟩ := hl.det rfl (nx_same' (fun e => absurd (show (0 : Int) = 1 from e) (by decide)))
          exact ⟨⟨(fun h => by cases h), fun h => absurd (show 6 ≤ 3 from h) (by decide), (fun h => by cases h), (fun h => by cases h)⟩, fun a x h => by cases h⟩
      · obtain ⟨rfl, hw, rfl⟩ := hl.det rfl rfl
        exact ⟨⟨(fun h => by cases h), fun h => absurd (show 6 ≤ 4 from h) (by decide), (fun h => by cases h), (fun h => by cases h)⟩, fun a x h => by cases h⟩
      · have hr := hok.2.2.1 (.inr rfl)
        have h4 := hok.2.2.2.1 rfl
        by_cases h1 : v = r1
        · obtain ⟨rfl, hw, rfl⟩ := hl.det rfl (nx_swap h1)
          obtain rfl : v' = r4 := one hw
          refine ⟨⟨fun _ _ => ?_, fun h => absurd (show 6 ≤ 5 from h) (by decide), (fun h => by cases h), (fun h => by cases h)⟩, fun a x h => by cases h⟩
          have := hr.1
          show 9223372036854775808 ≤ v'
          omega
        · obtain ⟨rfl, hw, rfl⟩ := hl.det rfl (nx_swap' h1)
          exact ⟨⟨(fun _ h => absurd (show (0 : Int) = 1 from h) (by decide)), fun h => absurd (show 6 ≤ 5 from h) (by decide), (fun h => by cases h), (fun h => by cases h)⟩, fun a x h => by cases h⟩
      · rcases hok.2.2.2.2 rfl with rfl | rfl
        · obtain ⟨rfl, hw, rfl⟩ := hl.det rfl (nx_same rfl)
          exact ⟨⟨(fun h => by cases h), fun h => absurd (show 6 ≤ 0 from h) (by decide), (fun h => by cases h), (fun h => by cases h)⟩, fun a x h => by cases h⟩
        · obtain ⟨rfl, hw, rfl⟩ := hl.det rfl (nx_same' (fun e => absurd (show (1 : Int) = 0 from e) (by decide)))
          obtain rfl := one hw
          exact ⟨⟨(fun h => by cases h), fun _ => q5 rfl rfl, (fun h => by cases h), (fun h => by cases h)⟩, fun a x h => by cases h⟩
      · obtain ⟨rfl, hw, rfl⟩ := hl.det rfl rfl
        obtain rfl := one hw
        exact ⟨⟨(fun h => by cases h), fun _ => q6 (by decide), (fun h => by cases h), (fun h => by cases h)⟩, fun a x h => by cases h⟩
      · obtain ⟨rfl, hw, rfl⟩ := hl.det rfl rfl
        obtain rfl := one hw
        exact ⟨⟨(fun h => by cases h), fun _ => q6 (by decide), fun _ => rfl, (fun h => by cases h)⟩, fun a x h => by cases h⟩
      · have h8 := q8 rfl
        obtain ⟨rfl, hw, rfl⟩ := hl.det rfl rfl
        obtain rfl := one hw
        exact ⟨⟨(fun h => by cases h), fun _ => q6 (by decide), (fun h => by cases h), fun _ => .inl h8⟩, fun a x h => by cases h⟩
      · obtain ⟨rfl, hw, rfl⟩ := hl.det rfl rfl
        obtain rfl := one hw
        exact ⟨⟨(fun h => by cases h), fun _ => q6 (by decide), (fun h => by cases h), fun _ => .inr rfl⟩, fun a x h => by cases h⟩
      · have h10 := q10 rfl
        obtain ⟨rfl, hw, rfl⟩ := hl.det rfl rfl
        obtain rfl := one hw
        refine ⟨⟨q6 (by decide), .inl rfl⟩, fun a x h => ?_⟩
        cases h
        refine ⟨rfl, .inl ⟨rfl, ?_⟩⟩
        show IntKind.i64.wrap r2 = 0 ∨ IntKind.i64.wrap r2 = -1
        rcases h10 with h | h <;> rw [h]
        · exact .inl (by decide)
        · exact .inr (by decide)
    · obtain rfl := Option.some.inj hb
      obtain ⟨hov, hf⟩ : over' v ∧ failO 25 30 o r1 r2 := hO
      have hok : o ≤ 30 ∧ (o ≤ 28 → arrOk (-1) v o r1 r2 r3 r4) := hok
      exact own_fail hv hov hf (.inl ⟨rfl, rfl, rfl⟩) hl fun h => by
        have := (hok.2 (by omega)).1.1 (.inl h)
        exact ⟨this.1, this.2.1⟩
    · obtain rfl := Option.some.inj hb
      obtain ⟨hov, hf⟩ : over' v ∧ failO 25 38 o r1 r2 := hO
      have hok : o ≤ 38 ∧ (o ≤ 28 → arrOk (-1) v o r1 r2 r3 r4) ∧ (29 ≤ o → awOk v (o - 29) r1 r2 r3 r4) := hok
      exact own_fail hv hov hf (.inr (.inl ⟨rfl, rfl, rfl⟩)) hl fun h => by
        have := (hok.2.1 (by omega)).1.1 (.inl h)
        exact ⟨this.1, this.2.1⟩
    · obtain rfl := Option.some.inj hb
      obtain ⟨hov, hf⟩ : over' v ∧ failO 11 14 o r1 r2 := hO
      have hok : regOk 1 v o r1 r2 r3 r4 := hok
      exact own_fail hv hov hf (.inr (.inr ⟨rfl, rfl, rfl⟩)) hl fun h => by
        have := hok.2.1.1 (.inl h)
        exact ⟨this.1, this.2.1⟩
  · obtain rfl : j = 4 := hj
    subst ho
    obtain ⟨rfl, hw, rfl⟩ := hl.det rfl rfl
    obtain rfl := one hw
    exact ⟨hO, fun a x h => by cases h⟩

end Go.Mac
