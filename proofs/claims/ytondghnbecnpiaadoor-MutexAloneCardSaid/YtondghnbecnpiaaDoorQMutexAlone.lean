/- Who is alone pays little. -/
import Derived.Test.YtondghnbecnpiaaDoorQLocked
import Derived.Test.YtondghnbecnpiaaDoorQResult
open Go Go.Proofs Go.Mac
set_option maxRecDepth 100000
namespace Go.Mac

abbrev aloneZ (t : Nat) : MZ := mz0 [mutexP (lockL t)] [0]
def wOk : List Int → Bool
  | [x] => decide (0 ≤ x ∧ x ≤ 1)
  | _ => false

def aloneOk (t : Nat) : Bool :=
  rightZ (mutexP (lockL t)) 1 && ((List.range (13 * t)).all fun i => (stepZ (stepsZ i (aloneZ t)) 0).1 == 0 && wOk (stepsZ (i + 1) (aloneZ t)).ws) && (stepsZ (13 * t) (aloneZ t)).el.length == 2 * t &&
    (stepZ (stepsZ (13 * t) (aloneZ t)) 0).1 == 0 && (stepZ (stepsZ (13 * t + 1) (aloneZ t)) 0).1 == 6

theorem alone_ok : ((List.range 6).all aloneOk) = true := by decide +kernel

theorem lockL_fit : ∀ n, ∀ c ∈ lockL n, mutexFit c
  | 0, c, h => by cases h
  | n + 1, c, h => by
    rw [lockL, List.mem_append] at h
    rcases h with h | h
    · exact lockL_fit n c h
    · simp only [List.mem_cons, List.not_mem_nil, or_false] at h
      rcases h with rfl | rfl <;> simp [mutexFit]

theorem wOk_ex {l : List Int} (h : wOk l = true) : ∃ x, l = [x] ∧ 0 ≤ x ∧ x ≤ 1 := by
  match l, h with
  | [x], h => exact ⟨x, rfl, of_decide_eq_true h⟩

section
variable {K : AV → List Nat → List PO → Prop}

theorem mutexAlone (x : Int) (_hx : -9223372036854775808 ≤ x ∧ x ≤ 9223372036854775807) : Does Tryd.prog 4 [i64 x] [rtH] fun v _ _ => v = bl true := by
  refine does Tryd.func4 rfl (by decide) ?_
  change Does Tryd.prog 23 _ _ _
  refine Does.alone 1 (locked ?_)
  change Does Tryd.prog 17 _ _ _
  refine Does.alone 1 (pick x 6 (by decide) ?_)
  have hp := pickZ_lt x (n := 6) (by decide)
  obtain ⟨t, ht⟩ := Int.eq_ofNat_of_zero_le hp.1
  rw [ht] at hp ⊢
  have hok : aloneOk t = true := List.all_eq_true.1 alone_ok t (List.mem_range.2 (by omega))
  simp only [aloneOk, Bool.and_eq_true, beq_iff_eq, List.all_eq_true, List.mem_range] at hok
  obtain ⟨⟨⟨⟨ok1, ok2⟩, ok3⟩, ok4⟩, ok5⟩ := hok
  change Does Tryd.prog 25 _ _ _
  refine Does.alone 1 (lockers (n := 1) (times := t) (by decide) (by omega) ?_)
  change Does Tryd.prog 24 _ _ _
  refine Does.nilArg4 2 (by decide) ?_
  have hlen := lockL_len t
  refine Does.on 4 [1, 2, 3] _ _ (made (ls := List.replicate 1 (lockL t)) (ps := [mutexP (lockL t)]) (ws := [0]) (ms := []) (f := 26) (n := 1) (nc := 1) (k := 0) (ro := false) (ro2 := false) (ro3 := false) rfl rfl rfl rfl (by decide) (by decide) (by decide) (fun p hp => by simp only [List.mem_singleton] at hp; subst hp; exact ok1) (by decide) (hz := rfl) (fun i l p hl hp K' hK' => ?_) fun v hv w0 => ?_)
  · obtain rfl : i = 0 := by have := (List.getElem?_eq_some_iff.1 hl).1; simp at this; omega
    obtain rfl : lockL t = l := by simpa using hl
    obtain rfl : mutexP (lockL t) = p := by simpa using hp
    exact mutexCode' _ 0 _ rfl (by omega) (lockL_fit t) hK'
  change WF (aloneZ t) at w0
  refine SS.loop (fun p : Nat × VZ => p.1 ≤ 13 * t ∧ okV p.2) (fun p => [(0, i64 t), (3, cv (.ptr 4 0)), (16, i64 (13 * t : Nat)), (17, i64 p.1)])
    (fun p => [rtH, callsH false (List.replicate 1 (lockL t)), .rows false 1 [rowU 0], .rows false 2 []] ++ machS 4 (stepsZ p.1 (aloneZ t)) p.2) (fun p => 13 * t - p.1) [10, 11, 12]
    (At.mk' [0, 3, 16, 17] (0, v) ⟨by simp, hv⟩ ⟨?_, rfl⟩ rfl rfl (by simp) (by simp) (by decide)) ?_
  · rw [wrap_i64 (13 * (t : Int)) (by omega) (by omega)]
    rfl
  rintro ⟨i, v1⟩ ⟨hi, hv1⟩
  change i ≤ 13 * t at hi
  have hw1 := stepsZ_wf w0 i
  refine S_r ?_
  refine brc_intro (fun hlt => ?_) (fun hlt => ?_)
  · have hlt : i < 13 * t := by
      have := of_decide_eq_true hlt
      have : (i : Int) < ((13 * t : Nat) : Int) := this
      omega
    obtain ⟨e1, e2⟩ := ok2 i hlt
    obtain ⟨y, e2, hy0, hy1⟩ := wOk_ex e2
    have hw2 := stepsZ_wf w0 (i + 1)
    refine SS.inlR ?_
    change Does Tryd.prog 20 _ _ _
    refine Does.on 13 [4, 5, 6, 7, 8, 9, 10, 11, 12] _ _ (coreStep (m := stepsZ i (aloneZ t)) (v := v1) hw1 hv1 0 (fun _ v' hv' => ?_) fun h => absurd e1 h)
    change Does Tryd.prog 27 _ _ _
    refine Does.on 13 [4, 5, 6, 7, 8, 9, 10, 11, 12] _ _ (coreCellsL (m := stepsZ (i + 1) (aloneZ t)) (v := v') hw2 e2 ?_)
    refine at2 (by decide) (Int.zero_lt_one) (rd1 (rowU y) (.int .u64 y) rfl rfl ?_)
    refine brc_intro (fun h => ?_) (fun _ => ?_)
    · have := of_decide_eq_true h; omega
    refine At.mk' [0, 3, 16, 17] (i + 1, v') ⟨⟨hlt, hv'⟩, by show 13 * t - (i + 1) < 13 * t - i; omega⟩ ⟨?_, rfl⟩ rfl rfl (by simp) (by simp) (by decide)
    rw [wrap_i64 (i + 1) (by omega) (by omega)]
    rfl
  · have hlt : ¬ (i : Int) < ((13 * t : Nat) : Int) := of_decide_eq_false hlt
    obtain rfl : i = 13 * t := by omega
    have hw2 := stepsZ_wf w0 (13 * t + 1)
    have hlen := hw1.el
    have hlk := hw1.k
    change Does Tryd.prog 22 _ _ _
    refine Does.on 13 [4, 5, 6, 7, 8, 9, 10, 11, 12] _ _ (coreEvents (m := stepsZ (13 * t) (aloneZ t)) (v := v1) (by omega) ?_)
    rw [ok3]
    refine brc_intro (fun _ => ?_) (fun h => ?_)
    · change Does Tryd.prog 20 _ _ _
      refine Does.on 14 [4, 5, 6, 7, 8, 9, 10, 11, 12] _ _ (coreStep (m := stepsZ (13 * t) (aloneZ t)) (v := v1) hw1 hv1 0 (fun _ v' hv' => ?_) fun h => absurd ok4 h)
      change Does Tryd.prog 20 _ _ _
      refine Does.on 14 [4, 5, 6, 7, 8, 9, 10, 11, 12] _ _ (coreStep (m := stepsZ (13 * t + 1) (aloneZ t)) (v := v') hw2 hv' 0 (fun h => absurd (h.symm.trans ok5) (by decide)) fun _ v2 hv2 => ?_)
      exact rfl
    · exfalso
      have h : (((2 * t : Nat) : Int) == IntKind.i64.wrap (2 * (t : Int))) = false := h
      rw [wrap_i64 (2 * (t : Int)) (by omega) (by omega)] at h
      simp at h

end
end Go.Mac
