/- The machine's orders. -/
import Derived.Test.YtljglfophhagjaaDoorQResult
open Go Go.Proofs Go.Mac
set_option maxRecDepth 100000
namespace Go.Mac

/-- Who is told 9 where it is so, and 7 where it isn't. -/
abbrev ordP (op x y : Int) : List InsZ := [⟨1, 1, x, 0, 0⟩, ⟨1, 2, y, 0, 0⟩, ⟨op, 1, 2, 5, 0⟩, ⟨1, 3, 7, 0, 0⟩, ⟨10, 6, 0, 0, 0⟩, ⟨1, 3, 9, 0, 0⟩]
abbrev sameP (x y : Int) : List InsZ := [⟨1, 1, x, 0, 0⟩, ⟨11, 1, y, 4, 0⟩, ⟨1, 3, 7, 0, 0⟩, ⟨10, 5, 0, 0, 0⟩, ⟨1, 3, 9, 0, 0⟩]

theorem ord_end {op x y : Int} (c : Bool) (h : localZ ⟨3, [0, u64m x, u64m y, 0, 0, 0, 0, 0], false⟩ ⟨op, 1, 2, 5, 0⟩ = some (if c = true then ⟨5, [0, u64m x, u64m y, 0, 0, 0, 0, 0], false⟩ else ⟨3, [0, u64m x, u64m y, 0, 0, 0, 0, 0], false⟩)) :
    allZ (stepsZ 100 (mz0 [resP (ordP op x y)] [0])) = true ∧ (stepsZ 100 (mz0 [resP (ordP op x y)] [0])).ws = [if c = true then 9 else 7] := by
  cases c with
  | true =>
    have h2 : locN (resP (ordP op x y)) 4 th0 = some ⟨6, [0, u64m x, u64m y, 9, 0, 0, 0, 0], false⟩ := by
      refine locN_cons rfl rfl rfl ?_
      refine locN_cons rfl rfl rfl ?_
      refine locN_cons rfl rfl h ?_
      refine locN_cons rfl rfl rfl rfl
    exact res_run h2 rfl rfl (by decide)
  | false =>
    have h2 : locN (resP (ordP op x y)) 5 th0 = some ⟨6, [0, u64m x, u64m y, 7, 0, 0, 0, 0], false⟩ := by
      refine locN_cons rfl rfl rfl ?_
      refine locN_cons rfl rfl rfl ?_
      refine locN_cons rfl rfl h ?_
      refine locN_cons rfl rfl rfl ?_
      refine locN_cons rfl rfl rfl rfl
    exact res_run h2 rfl rfl (by decide)

theorem same_end {x y : Int} :
    allZ (stepsZ 100 (mz0 [resP (sameP x y)] [0])) = true ∧ (stepsZ 100 (mz0 [resP (sameP x y)] [0])).ws = [if u64m x = u64m y then 9 else 7] := by
  by_cases c : u64m x = u64m y
  · have h : localZ ⟨2, [0, u64m x, 0, 0, 0, 0, 0, 0], false⟩ ⟨11, 1, y, 4, 0⟩ = some ⟨4, [0, u64m x, 0, 0, 0, 0, 0, 0], false⟩ := congrArg some (if_pos c)
    have h2 : locN (resP (sameP x y)) 3 th0 = some ⟨5, [0, u64m x, 0, 9, 0, 0, 0, 0], false⟩ := by
      refine locN_cons rfl rfl rfl ?_
      refine locN_cons rfl rfl h ?_
      refine locN_cons rfl rfl rfl rfl
    rw [if_pos c]
    exact res_run h2 rfl rfl (by decide)
  · have h : localZ ⟨2, [0, u64m x, 0, 0, 0, 0, 0, 0], false⟩ ⟨11, 1, y, 4, 0⟩ = some ⟨2, [0, u64m x, 0, 0, 0, 0, 0, 0], false⟩ := congrArg some (if_neg c)
    have h2 : locN (resP (sameP x y)) 4 th0 = some ⟨5, [0, u64m x, 0, 7, 0, 0, 0, 0], false⟩ := by
      refine locN_cons rfl rfl rfl ?_
      refine locN_cons rfl rfl h ?_
      refine locN_cons rfl rfl rfl ?_
      refine locN_cons rfl rfl rfl rfl
    rw [if_neg c]
    exact res_run h2 rfl rfl (by decide)

theorem ask {K : AV → List Nat → List PO → Prop} {op x y : Int} (c : Bool) (h : localZ ⟨3, [0, u64m x, u64m y, 0, 0, 0, 0, 0], false⟩ ⟨op, 1, 2, 5, 0⟩ = some (if c = true then ⟨5, [0, u64m x, u64m y, 0, 0, 0, 0, 0], false⟩ else ⟨3, [0, u64m x, u64m y, 0, 0, 0, 0, 0], false⟩))
    (hr : rightZ (resP (ordP op x y)) 1 = true) (hK : K (u64 (if c = true then 9 else 7)) [] []) : Does Tryd.prog 26 [i64 op, i64 x, i64 y] [] K := by
  refine does Tryd.func26 rfl (by decide) ?_
  change Does Tryd.prog 25 _ _ _
  obtain ⟨ha1, ha2⟩ := ord_end c h
  refine Does.on 1 [0] _ _ (result (l := ordP op x y) (n := 6) (nn := true) rfl (by decide) hr ha1 ha2 ?_)
  exact hK

theorem coreOrders (x : Int) (_hx : -9223372036854775808 ≤ x ∧ x ≤ 9223372036854775807) (y : Int) (_hy : -9223372036854775808 ≤ y ∧ y ≤ 9223372036854775807) :
    Does Tryd.prog 7 [i64 x, i64 y] [rtH] fun v _ _ => v = bl true := by
  refine does Tryd.func7 rfl (by decide) ?_
  change Does Tryd.prog 24 _ _ _
  refine Does.alone 1 (gone ?_)
  have l1 : ∀ a b : Int, localZ ⟨3, [0, u64m a, u64m b, 0, 0, 0, 0, 0], false⟩ ⟨12, 1, 2, 5, 0⟩ = some (if decide (u64m a < u64m b) = true then ⟨5, [0, u64m a, u64m b, 0, 0, 0, 0, 0], false⟩ else ⟨3, [0, u64m a, u64m b, 0, 0, 0, 0, 0], false⟩) := fun a b => by
    by_cases h : u64m a < u64m b
    · rw [if_pos (decide_eq_true h)]
      exact congrArg some (if_pos h)
    · rw [if_neg (by rw [decide_eq_false h]; decide)]
      exact congrArg some (if_neg h)
  have l2 : ∀ a b : Int, localZ ⟨3, [0, u64m a, u64m b, 0, 0, 0, 0, 0], false⟩ ⟨13, 1, 2, 5, 0⟩ = some (if decide (u64m a = u64m b) = true then ⟨5, [0, u64m a, u64m b, 0, 0, 0, 0, 0], false⟩ else ⟨3, [0, u64m a, u64m b, 0, 0, 0, 0, 0], false⟩) := fun a b => by
    by_cases h : u64m a = u64m b
    · rw [if_pos (decide_eq_true h)]
      exact congrArg some (if_pos h)
    · rw [if_neg (by rw [decide_eq_false h]; decide)]
      exact congrArg some (if_neg h)
  change Does Tryd.prog 26 _ _ _
  refine Does.alone 1 (ask (op := 12) (x := x) (y := y) _ (l1 x y) rfl ?_)
  change Does Tryd.prog 26 _ _ _
  refine Does.alone 1 (ask (op := 12) (x := y) (y := x) _ (l1 y x) rfl ?_)
  change Does Tryd.prog 26 _ _ _
  refine Does.alone 1 (ask (op := 13) (x := x) (y := y) _ (l2 x y) rfl ?_)
  change Does Tryd.prog 25 _ _ _
  obtain ⟨hb1, hb2⟩ := same_end (x := x) (y := y)
  refine Does.on 2 [1] _ _ (result (l := sameP x y) (n := 5) (nn := true) rfl (by decide) (by rfl) hb1 hb2 ?_)
  have t : u64m x < u64m y ∨ u64m x = u64m y ∨ u64m y < u64m x := by omega
  rcases t with h | h | h
  · rw [show (if decide (u64m x < u64m y) = true then (9 : Int) else 7) = 9 from if_pos (decide_eq_true h), show (if decide (u64m y < u64m x) = true then (9 : Int) else 7) = 7 from if_neg (by rw [decide_eq_false (by omega)]; decide),
      show (if decide (u64m x = u64m y) = true then (9 : Int) else 7) = 7 from if_neg (by rw [decide_eq_false (by omega)]; decide), show (if u64m x = u64m y then (9 : Int) else 7) = 7 from if_neg (by omega)]
    refine brc_intro (fun _ => fin rfl) (fun e => absurd (show (((9 : Int) == 9) == decide (u64m x < u64m y)) = false from e) (by rw [decide_eq_true h]; decide))
  · rw [show (if decide (u64m x < u64m y) = true then (9 : Int) else 7) = 7 from if_neg (by rw [decide_eq_false (by omega)]; decide), show (if decide (u64m y < u64m x) = true then (9 : Int) else 7) = 7 from if_neg (by rw [decide_eq_false (by omega)]; decide),
      show (if decide (u64m x = u64m y) = true then (9 : Int) else 7) = 9 from if_pos (decide_eq_true h), show (if u64m x = u64m y then (9 : Int) else 7) = 9 from if_pos h]
    refine brc_intro (fun _ => fin rfl) (fun e => absurd (show (((7 : Int) == 9) == decide (u64m x < u64m y)) = false from e) (by rw [decide_eq_false (by omega)]; decide))
  · rw [show (if decide (u64m x < u64m y) = true then (9 : Int) else 7) = 7 from if_neg (by rw [decide_eq_false (by omega)]; decide), show (if decide (u64m y < u64m x) = true then (9 : Int) else 7) = 9 from if_pos (decide_eq_true h),
      show (if decide (u64m x = u64m y) = true then (9 : Int) else 7) = 7 from if_neg (by rw [decide_eq_false (by omega)]; decide), show (if u64m x = u64m y then (9 : Int) else 7) = 7 from if_neg (by omega)]
    refine brc_intro (fun _ => fin rfl) (fun e => absurd (show (((7 : Int) == 9) == decide (u64m x < u64m y)) = false from e) (by rw [decide_eq_false (by omega)]; decide))

end Go.Mac
