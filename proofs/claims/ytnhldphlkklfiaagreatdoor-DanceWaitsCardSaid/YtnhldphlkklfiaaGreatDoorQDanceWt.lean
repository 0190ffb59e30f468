/- DanceWaits. -/
import Derived.Test.YtnhldphlkklfiaaGreatDoorQWaits
open Go Go.Proofs Go.Mac
set_option maxRecDepth 100000
namespace Go.Mac

theorem picksW_succ {n w i : Nat} {l : List Int} {x : Int} (hx : l[i]? = some x) (m : MZ) : movesZ m (picksW n w (l.take (i + 1))) = if pickZ x n = (w : Int) then movesZ m (picksW n w (l.take i)) else (stepZ (movesZ m (picksW n w (l.take i))) (pickZ x n)).2 := by
  rw [List.take_add_one, hx, picksW, List.filter_append, List.map_append, movesZ, List.foldl_append]
  by_cases h : pickZ x n = (w : Int)
  · rw [if_pos h]
    simp [h]
    rfl
  · rw [if_neg h]
    simp [h]
    rfl

theorem waitsAny {K : AV → List Nat → List PO → Prop} {el : List EvZ} {w n : Nat} {ro nn : Bool} {c : Option Nat} (hn : el.length = n) (hb : n ≤ 1000000) (he : ∀ (j : Nat) (e : EvZ), el[j]? = some e → e.a ≠ 2 ∧ e.t ≠ w) (h : K (bl false) [] [.rows ro 4 (el.map rowEv), .one [.f (.int .i64 w)]]) :
    Does Tryz.prog 30 [cv (.slc 0 0 n c nn), cv (.func 32 [1])] [.rows ro 4 (el.map rowEv), .one [.f (.int .i64 w)]] K := by
  refine does Tryz.func30 rfl (by decide) ?_
  change Does Tryz.prog 66 _ _ _
  refine waitsIdx hn hb he ?_
  exact h

theorem danceWaits (k : Int) (_hk : -9223372036854775808 ≤ k ∧ k ≤ 9223372036854775807) (n : Int) (_hn : -9223372036854775808 ≤ n ∧ n ≤ 9223372036854775807) (R : Int) (_hR : -9223372036854775808 ≤ R ∧ R ≤ 9223372036854775807) (who : Int) (_hw : -9223372036854775808 ≤ who ∧ who ≤ 9223372036854775807) (l : List Int) (_hl : ∀ x ∈ l, -9223372036854775808 ≤ x ∧ x ≤ 9223372036854775807) :
    Does Tryz.prog 9 [i64 k, i64 n, i64 R, i64 who, cv (.slc 0 0 l.length none false)] [.rows true 1 (l.map rowZ), rtH] fun v _ _ => v = bl true := by
  refine does Tryz.func9 rfl (by decide) ?_
  change Does Tryz.prog 20 _ _ _
  refine Does.on 3 [1] _ _ (danced ?_)
  refine brc_intro (fun _ => rfl) (fun h => ?_)
  have hms : l.length ≤ 900 := by
    have := of_decide_eq_false h
    omega
  change Does Tryz.prog 21 _ _ _
  refine Does.alone 3 (ball k n R ?_)
  obtain ⟨k, hk, hk6⟩ := pick6 k
  obtain ⟨n, hn, hn16⟩ := pick16b n
  obtain ⟨R, hR, hR6⟩ := pick7 R
  rw [hk, hn, hR]
  change Does Tryz.prog 22 _ _ _
  refine Does.alone 3 (pick who n (by omega) ?_)
  have hpw := pickZ_lt who (n := (n : Int)) (by omega)
  obtain ⟨w, hwe⟩ : ∃ w : Nat, pickZ who (n : Int) = w := ⟨(pickZ who (n : Int)).toNat, by omega⟩
  rw [hwe] at hpw ⊢
  have hlaw := dance_waits hk6 hn16 hR6 (w := w) (by omega) l
  change Does Tryz.prog 23 _ _ _
  refine Does.alone 3 (floor0 (k := k) (n := n) (R := R) (kindAll hk6 hn16 (by omega)) fun v hv hw => ?_)
  refine SS.loop (fun p : Nat × VZ => p.1 ≤ l.length ∧ okV p.2) (fun p => [(1, i64 n), (8, cv (.ptr 2 0)), (11, cv (.ptr 3 0)), (37, cv (.slc 0 0 l.length none false)), (38, i64 l.length), (39, i64 p.1)])
    (fun p => [.rows true 1 (l.map rowZ), rtH, .one [.f (.int .i64 w)]] ++ machS 3 (movesZ (danceM k n R) (picksW n w (l.take p.1))) p.2) (fun p => l.length - p.1) [9, 10, 11]
    (At.mk' [1, 8, 11, 37, 38, 39] (0, v) ⟨by simp, hv⟩ ⟨rfl, rfl⟩ rfl rfl (by simp) (by simp) (by decide)) ?_
  rintro ⟨i, v1⟩ ⟨hik, hv1⟩
  change i ≤ l.length at hik
  change okV v1 at hv1
  have hw1 := hw.moves (picksW n w (l.take i))
  refine S_r ?_
  refine brc_intro (fun hlt => ?_) (fun hlt => ?_)
  · have hlt : i < l.length := by
      have := of_decide_eq_true hlt
      have : (i : Int) < (l.length : Int) := this
      omega
    obtain ⟨x, hx⟩ : ∃ x, l[i]? = some x := ⟨_, List.getElem?_eq_getElem (by omega)⟩
    have hnx := picksW_succ (n := n) (w := w) hx (danceM k n R)
    have hup : IntKind.i64.wrap ((i : Int) + 1) = ((i + 1 : Nat) : Int) := wrap_i64 (i + 1) (by omega) (by omega)
    refine SS.inlR ?_
    refine at2 (a := (0 : Int) ≤ (i : Int)) (b := (i : Int) < (l.length : Int)) (by omega) (by omega) (rd1 (rowZ x) (.int .i64 x) (by simp [hx]) rfl ?_)
    change Does Tryz.prog 22 _ _ _
    refine Does.alone 12 (pick x n (by omega) ?_)
    refine brc_intro (fun h1 => ?_) (fun h1 => ?_)
    · have h1 : pickZ x n ≠ (w : Int) := by simpa using h1
      rw [if_neg h1] at hnx
      change Does Tryz.prog 26 _ _ _
      refine Does.on 12 [3, 4, 5, 6, 7, 8, 9, 10, 11] _ _ (coreStep (m := movesZ (danceM k n R) (picksW n w (l.take i))) (v := v1) hw1 hv1 (pickZ x n) (fun _ v' hv' => ?_) fun _ v' hv' => ?_)
      all_goals
        rw [← hnx]
        refine At.mk' [1, 8, 11, 37, 38, 39] (i + 1, v') ⟨⟨hlt, hv'⟩, by show l.length - (i + 1) < l.length - i; omega⟩ ⟨?_, rfl⟩ rfl rfl (by simp) (by simp) (by decide)
        rw [hup]
        rfl
    · have h1 : pickZ x n = (w : Int) := by simpa using h1
      rw [if_pos h1] at hnx
      refine At.mk' [1, 8, 11, 37, 38, 39] (i + 1, v1) ⟨⟨hlt, hv1⟩, by show l.length - (i + 1) < l.length - i; omega⟩ ⟨?_, rfl⟩ ?_ rfl (by simp) (by simp) (by decide)
      · rw [hup]
      · rw [← hnx]
        rfl
  · have hlt : ¬ (i : Int) < (l.length : Int) := of_decide_eq_false hlt
    obtain rfl : i = l.length := by omega
    rw [show l.take l.length = l from List.take_length] at *
    have hel := hw1.el
    have hkz := hw1.k
    change Does Tryz.prog 31 _ _ _
    refine Does.on 12 [3, 4, 5, 6, 7, 8, 9, 10, 11] _ _ (coreEvents (m := movesZ (danceM k n R) (picksW n w l)) (v := v1) (by omega) ?_)
    change Does Tryz.prog 30 _ _ _
    refine Does.on 13 [12, 2] _ _ (waitsAny (el := (movesZ (danceM k n R) (picksW n w l)).el) (w := w) rfl (by omega) hlaw ?_)
    rfl

end Go.Mac
