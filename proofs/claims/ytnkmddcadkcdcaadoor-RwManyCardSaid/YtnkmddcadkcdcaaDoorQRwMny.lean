/- All may look at once. -/
import Derived.Test.YtnkmddcadkcdcaaDoorQRwMy
import Derived.Test.YtnkmddcadkcdcaaDoorQShared
import Derived.Test.YtnkmddcadkcdcaaDoorQRepeat
open Go Go.Proofs Go.Mac
set_option maxRecDepth 100000
namespace Go.Mac

/-- A step of one that is picked. -/
def stepR (n : Nat) (t : Int) : MoveZ := ⟨pickZ t n, false⟩

theorem manyP_cat : rwP [⟨14, 0⟩] = catP manyL := rfl

theorem rwMany (a : Int) (_ha : -9223372036854775808 ≤ a ∧ a ≤ 9223372036854775807) (l : List Int) (_hl : ∀ x ∈ l, -9223372036854775808 ≤ x ∧ x ≤ 9223372036854775807) :
    Does Tryd.prog 13 [i64 a, cv (.slc 0 0 l.length none false)] [.rows true 1 (l.map rowZ), rtH] fun v _ _ => v = bl true := by
  refine does Tryd.func13 rfl (by decide) ?_
  change Does Tryd.prog 44 _ _ _
  refine Does.alone 2 (shared ?_)
  refine brc_intro (fun _ => rfl) (fun h => ?_)
  have hms : l.length ≤ 300 := by
    have := of_decide_eq_false h
    omega
  change Does Tryd.prog 23 _ _ _
  refine Does.alone 2 (pick a 16 (by decide) ?_)
  have hpa := pickZ_lt a (n := 16) (by decide)
  obtain ⟨n, hn⟩ := Int.eq_ofNat_of_zero_le (show 0 ≤ 1 + pickZ a 16 by omega)
  have hn16 : 1 ≤ n ∧ n ≤ 16 := by omega
  refine And.intro rfl ?_
  change Does Tryd.prog 47 _ _ _
  rw [wrap_i64 (1 + pickZ a 16) (by omega) (by omega), hn]
  clear hn hpa
  refine Does.on 4 [3] _ _ (repeatCalls (n := n) (p := [rowCallZ ⟨14, 0⟩]) hn16 ?_)
  have hmap : List.replicate n [rowCallZ ⟨14, 0⟩] = (List.replicate n [CallZ.mk 14 0]).map fun l => l.map rowCallZ := by rw [List.map_replicate]; rfl
  rw [hmap]
  have hps : (List.replicate n [CallZ.mk 14 0]).map rwP = List.replicate n (catP manyL) := by rw [List.map_replicate, manyP_cat]
  have hr : ∀ p ∈ (List.replicate n [CallZ.mk 14 0]).map rwP, rightZ p 1 = true := fun p hp => by
    rw [hps] at hp
    rw [(List.mem_replicate.1 hp).2]
    exact many_right
  have hlen : (List.replicate n [CallZ.mk 14 0]).length = n := by simp
  have hone : ∀ x ∈ List.replicate n [CallZ.mk 14 0], x = [CallZ.mk 14 0] := fun x hx => (List.mem_replicate.1 hx).2
  generalize List.replicate n [CallZ.mk 14 0] = calls at hps hr hlen hone ⊢
  have hF := many_fin hn16.2
  have hA := many_awake hn16.2
  obtain ⟨z, hz⟩ : ∃ z, mz0 (calls.map rwP) [0] = z := ⟨_, rfl⟩
  rw [← hps, hz] at hF hA
  change Does Tryd.prog 24 _ _ _
  refine Does.nilArg4 2 (by decide) ?_
  refine Does.on 7 [4, 5, 6] _ _ (made (ls := calls) (ps := calls.map rwP) (ws := [0]) (ms := []) (f := 46) (n := n) (nc := 1) (k := 0) (ro := false) (ro2 := false) (ro3 := false) hlen (by rw [List.length_map]; exact hlen) rfl rfl hn16.2 (by decide) (by decide) hr (by decide) (hz := hz) (fun i l p hl hp K' hK' => ?_) fun v hv hw => ?_)
  · obtain rfl : rwP l = p := by
      rw [List.getElem?_map, hl] at hp
      exact Option.some.inj hp
    obtain rfl := hone l (List.mem_of_getElem? hl)
    exact rwCode' i i _ hl (by decide) (fun c hc => by rw [List.mem_singleton.1 hc]; simp [rwFit]) hK'
  refine SS.loop (fun p : Nat × VZ => p.1 ≤ l.length ∧ okV p.2) (fun p => [(0, i64 n), (5, cv (.ptr 7 0)), (30, cv (.slc 0 0 l.length none false)), (31, i64 l.length), (32, i64 p.1)])
    (fun p => [.rows true 1 (l.map rowZ), rtH, .gone, .gone, callsH false calls, .rows false 1 [rowU 0], .rows false 2 []] ++ machS 7 (movesZ z ((l.map (stepR n)).take p.1)) p.2) (fun p => l.length - p.1) [2, 3, 13, 14, 15]
    (At.mk' [0, 5, 30, 31, 32] (0, v) ⟨Nat.zero_le _, hv⟩ ⟨rfl, rfl⟩ rfl rfl (by simp) (by simp) (by decide)) ?_
  rintro ⟨i, v1⟩ ⟨hik, hv1⟩
  change i ≤ l.length at hik
  change okV v1 at hv1
  refine S_r ?_
  refine brc_intro (fun hlt => ?_) (fun hlt => ?_)
  · have hlt : i < l.length := by
      have := of_decide_eq_true hlt
      have : (i : Int) < (l.length : Int) := this
      omega
    obtain ⟨x, hx⟩ : ∃ x, l[i]? = some x := ⟨_, List.getElem?_eq_getElem (by omega)⟩
    have hw1 := hw.moves ((l.map (stepR n)).take i)
    have hw2 := hw.moves ((l.map (stepR n)).take (i + 1))
    have hA2 := hA ((l.map (stepR n)).take (i + 1)) (pickZ x n)
    have hnx := movesZ_take z (l.map (stepR n)) i (stepR n x) (by simp [hx])
    rw [moveZ, if_neg (show ¬ (stepR n x).pk = true from fun h => by cases h)] at hnx
    have hup : IntKind.i64.wrap ((i : Int) + 1) = ((i + 1 : Nat) : Int) := wrap_i64 (i + 1) (by omega) (by omega)
    refine SS.inlR ?_
    refine at2 (a := (0 : Int) ≤ (i : Int)) (b := (i : Int) < (l.length : Int)) (by omega) (by omega) (rd1 (rowZ x) (.int .i64 x) (by simp [hx]) rfl ?_)
    change Does Tryd.prog 23 _ _ _
    refine Does.alone 16 (pick x n (by omega) ?_)
    change Does Tryd.prog 41 _ _ _
    refine Does.on 16 [7, 8, 9, 10, 11, 12, 13, 14, 15] _ _ (coreStep (m := movesZ z ((l.map (stepR n)).take i)) (v := v1) hw1 hv1 (pickZ x n) (fun _ v' hv' => ?_) fun _ v' hv' => ?_)
    all_goals
      rw [show (stepZ (movesZ z ((l.map (stepR n)).take i)) (pickZ x n)).2 = movesZ z ((l.map (stepR n)).take (i + 1)) from hnx.symm]
      change Does Tryd.prog 48 _ _ _
      refine Does.on 16 [7, 8, 9, 10, 11, 12, 13, 14, 15] _ _ (coreAt (m := movesZ z ((l.map (stepR n)).take (i + 1))) (v := v') hw2 (pickZ x n) (fun _ => ?_) (fun _ _ => ?_) fun _ _ => ?_)
      · refine At.mk' [0, 5, 30, 31, 32] (i + 1, v') ⟨⟨hlt, hv'⟩, by show l.length - (i + 1) < l.length - i; omega⟩ ⟨?_, rfl⟩ rfl rfl (by simp) (by simp) (by decide)
        rw [hup]
        rfl
      · refine At.mk' [0, 5, 30, 31, 32] (i + 1, v') ⟨⟨hlt, hv'⟩, by show l.length - (i + 1) < l.length - i; omega⟩ ⟨?_, rfl⟩ rfl rfl (by simp) (by simp) (by decide)
        rw [hup]
        rfl
      · rw [hA2]
        refine At.mk' [0, 5, 30, 31, 32] (i + 1, v') ⟨⟨hlt, hv'⟩, by show l.length - (i + 1) < l.length - i; omega⟩ ⟨?_, rfl⟩ rfl rfl (by simp) (by simp) (by decide)
        rw [hup]
        rfl
  · have hlt : ¬ (i : Int) < (l.length : Int) := of_decide_eq_false hlt
    obtain rfl : i = l.length := by omega
    have hw1 := hw.moves (l.map (stepR n))
    obtain ⟨f1, f2⟩ := hF (l.map (stepR n))
    rw [show (l.map (stepR n)).take l.length = l.map (stepR n) from List.take_of_length_le (by rw [List.length_map]; omega)]
    generalize movesZ z (l.map (stepR n)) = z1 at hw1 f1 f2 ⊢
    change Does Tryd.prog 27 _ _ _
    refine Does.on 16 [7, 8, 9, 10, 11, 12, 13, 14, 15] _ _ (fairFinish (m := z1) (v := v1) hw1 hv1 fun v2 _ hv2 hw2 => ?_)
    generalize finish z1 = z2 at hw2 f1 f2 ⊢
    change Does Tryd.prog 31 _ _ _
    refine Does.on 16 [7, 8, 9, 10, 11, 12, 13, 14, 15] _ _ (coreEnds (m := z2) (v := v2) hw2 ?_)
    rw [f1]
    change Does Tryd.prog 33 _ _ _
    refine Does.on 16 [7, 8, 9, 10, 11, 12, 13, 14, 15] _ _ (coreCellsL (m := z2) (v := v2) hw2 f2 ?_)
    change Does Tryd.prog 32 _ _ _
    rw [wrap_u64 (n : Int) (by omega) (by omega)]
    refine Does.on 18 [16, 17] _ _ (equalU (xs := [(n : Int)]) (ys := [(n : Int)]) (by simp) (fun _ => ?_) fun h => absurd rfl h)
    exact rfl

end Go.Mac
